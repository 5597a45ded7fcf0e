/- A Pool's untypeds: one more, one in the place of another, one less; a range over them. -/
import Derived.Test.YtjjgdacjfmiamaaPoolRep
namespace Go.Proofs.Ytjjgdacjfmiamaa
open Go.RowKit Go.Lib

section
variable {w : World} {base pb mb gb : Nat} {K : Nat → Nat} {E : List Reg}

theorem fnd_key {E : List Reg} {k : Nat} {j : Nat} {v : Value} (hq : fnd (k : Int) (E.map entR) 0 = some (j, v)) : ∃ hj : j < E.length, E[j].key = k ∧ (E.map entR)[j]? = some ((k : Int), v, E[j].born) := by
  obtain ⟨_, _, b, h3⟩ := fnd_some hq
  simp only [Nat.sub_zero] at h3
  obtain ⟨hj, h1, h2⟩ := ents_get h3
  exact ⟨hj, by omega, by rw [h3, h2]⟩
theorem fnd_nokey {E : List Reg} {k : Nat} (hq : fnd (k : Int) (E.map entR) 0 = none) : ∀ r ∈ E, r.key ≠ k := by
  intro r hr hk
  have := (fnd_none hq).2
  rw [ents_keys] at this
  exact this (List.mem_map.2 ⟨k, List.mem_map.2 ⟨r, hr, hk⟩, rfl⟩)
theorem set_entR (E : List Reg) (j : Nat) (r : Reg) : (E.map entR).set j (entR r) = (E.set j r).map entR := by
  rw [List.map_set]
theorem set_len_map {α : Type} (f : Reg → α) (E : List Reg) (j : Nat) (hj : j < E.length) (r : Reg) (hf : f r = f E[j]) : (E.set j r).map f = E.map f := by
  rw [List.map_set, hf]
  apply List.ext_getElem?
  intro i
  rw [List.getElem?_set]
  split
  · rename_i e
    subst e
    simp [hj]
  · rfl

theorem nodup_set : ∀ (l : List Nat) (j a : Nat), l.Nodup → a ∉ l → (l.set j a).Nodup
  | [], _, _, _, _ => by simp
  | b :: l, 0, a, h, hn => by
    simp only [List.nodup_cons] at h
    simp only [List.mem_cons, not_or] at hn
    simp only [List.set_cons_zero, List.nodup_cons]
    exact ⟨hn.2, h.2⟩
  | b :: l, j + 1, a, h, hn => by
    simp only [List.nodup_cons] at h
    simp only [List.mem_cons, not_or] at hn
    simp only [List.set_cons_succ, List.nodup_cons]
    refine ⟨fun hx => ?_, nodup_set l j a h.2 hn.2⟩
    rcases List.mem_or_eq_of_mem_set hx with hx | hx
    · exact h.1 hx
    · exact hn.1 hx.symm

/-- An untyped is laid into the map: in the place of one with its number, if there is one. -/
theorem PRep.putReg (h : PRep w base pb mb gb K E) (r : Reg) (hb : Blk w r.blk 50 (regCells r)) (hnew : ¬ Own pb mb gb E r.blk) (hlow : base ≤ r.blk) (hok : RegOk r) (hnw : r.key ≠ 1312) :
    ∃ o E', (Instr.mapUpdate 44 (.map (some mb)) (.int .i64 r.key) (.pointer (some ⟨r.blk, 0, none⟩))).run Try.prog w = .ok () (putObj w mb o) ∧ PRep (putObj w mb o) base pb mb gb K E' ∧
      (∀ x ∈ E', x ∈ E ∧ x.key ≠ r.key ∨ x.blk = r.blk ∧ x.key = r.key ∧ x.base = r.base ∧ x.ord = r.ord ∧ x.mark = r.mark) ∧ (∀ x ∈ E, x.key ≠ r.key → x ∈ E') ∧ E'.length ≤ E.length + 1 := by
  obtain ⟨c, hm, hc⟩ := h.map
  have hne : r.blk ≠ mb := fun e => hnew (.inr (.inl e))
  cases hq : fnd (r.key : Int) (E.map entR) 0 with
  | none =>
    have hk := fnd_nokey hq
    have hr := run_mapUpdate_new (P := Try.prog) hm Try.underlying44 Try.underlying3 (.pointer (some ⟨r.blk, 0, none⟩)) hq
    have hu : ∀ o, Upd (fun b => b = mb) w (putObj w mb o) := fun o => (Upd.refl (fun b => b = mb) w).putObj (.inr rfl) o
    refine ⟨_, E ++ [{ r with born := c }], hr, ⟨h.pool.upd (hu _) h.ne_pm.symm, h.page.upd (hu _) h.ne_gm.symm, ⟨c + 1, ?_, ?_⟩, ?_, ?_, ?_, ?_, ?_, h.kinds, ?_, ?_⟩, ?_, ?_, by simp⟩
    · show (putObj w mb _).heap[mb]? = _
      rw [putObj_same hm, List.map_append (f := entR)]
      rfl
    · intro x hx
      rcases List.mem_append.1 hx with h1 | h1
      · have := hc x h1; omega
      · rw [List.mem_singleton.1 h1]; exact Nat.lt_succ_self c
    · rw [List.map_append, List.nodup_append]
      refine ⟨h.keys, by simp, ?_⟩
      intro a ha b hb
      simp only [List.map_cons, List.map_nil, List.mem_singleton] at hb
      subst hb
      rintro rfl
      obtain ⟨x, hx, hxk⟩ := List.mem_map.1 ha
      exact hk x hx hxk
    · rw [List.map_append, List.nodup_append]
      refine ⟨h.borns, by simp, ?_⟩
      intro a ha b hb
      simp only [List.map_cons, List.map_nil, List.mem_singleton] at hb
      subst hb
      rintro rfl
      obtain ⟨x, hx, hxk⟩ := List.mem_map.1 ha
      have := hc x hx
      omega
    · rw [List.map_append, List.nodup_append]
      refine ⟨h.blks, by simp, ?_⟩
      intro a ha b hb
      simp only [List.map_cons, List.map_nil, List.mem_singleton] at hb
      subst hb
      rintro rfl
      obtain ⟨x, hx, hxk⟩ := List.mem_map.1 ha
      exact hnew (.inr (.inr (.inr ⟨x, hx, hxk.symm⟩)))
    · intro x hx
      rcases List.mem_append.1 hx with h1 | h1
      · exact (h.reg x h1).upd (hu _) (h.ne_rm h1).symm
      · rw [List.mem_singleton.1 h1]; exact hb.upd (hu _) hne
    · intro x hx
      rcases List.mem_append.1 hx with h1 | h1
      · exact h.ok x h1
      · rw [List.mem_singleton.1 h1]; exact ⟨hok.key, hok.ord, hok.al, hok.top, hok.mark⟩
    · obtain ⟨x, hx, hxk⟩ := h.whole
      exact ⟨x, List.mem_append.2 (.inl hx), hxk⟩
    · rintro i (h1 | h1 | h1 | ⟨x, hx, rfl⟩)
      · exact h.low i (.inl h1)
      · exact h.low i (.inr (.inl h1))
      · exact h.low i (.inr (.inr (.inl h1)))
      · rcases List.mem_append.1 hx with h1 | h1
        · exact h.low _ (.inr (.inr (.inr ⟨x, h1, rfl⟩)))
        · rw [List.mem_singleton.1 h1]; exact hlow
    · intro x hx
      rcases List.mem_append.1 hx with h1 | h1
      · exact .inl ⟨h1, hk x h1⟩
      · rw [List.mem_singleton.1 h1]; exact .inr ⟨rfl, rfl, rfl, rfl, rfl⟩
    · intro x hx _
      exact List.mem_append.2 (.inl hx)
  | some y =>
    obtain ⟨j, v0⟩ := y
    obtain ⟨hj, hjk, h3⟩ := fnd_key hq
    have hr := run_mapUpdate_old (P := Try.prog) hm Try.underlying44 Try.underlying3 (.pointer (some ⟨r.blk, 0, none⟩)) hq h3
    have hu : ∀ o, Upd (fun b => b = mb) w (putObj w mb o) := fun o => (Upd.refl (fun b => b = mb) w).putObj (.inr rfl) o
    have hset : (E.map entR).set j ((r.key : Int), .pointer (some ⟨r.blk, 0, none⟩), E[j].born) = (E.set j { r with born := E[j].born }).map entR := by
      rw [← set_entR]; rfl
    have hmem := mem_set_iff (r := { r with born := E[j].born }) h.keys hj
    rw [hjk] at hmem
    refine ⟨_, E.set j { r with born := E[j].born }, hr, ⟨h.pool.upd (hu _) h.ne_pm.symm, h.page.upd (hu _) h.ne_gm.symm, ⟨c, ?_, ?_⟩, ?_, ?_, ?_, ?_, ?_, h.kinds, ?_, ?_⟩, ?_, ?_, by simp⟩
    · show (putObj w mb _).heap[mb]? = _
      rw [putObj_same hm, hset]
    · intro x hx
      rcases (hmem x).1 hx with ⟨h1, _⟩ | rfl
      · exact hc x h1
      · exact hc E[j] (List.getElem_mem hj)
    · rw [set_len_map Reg.key E j hj { r with born := E[j].born } hjk.symm]; exact h.keys
    · rw [set_len_map Reg.born E j hj { r with born := E[j].born } rfl]; exact h.borns
    · rw [List.map_set]
      show ((E.map Reg.blk).set j r.blk).Nodup
      have hnot : r.blk ∉ E.map Reg.blk := fun hx => by
        obtain ⟨x, hx, hxb⟩ := List.mem_map.1 hx
        exact hnew (.inr (.inr (.inr ⟨x, hx, hxb.symm⟩)))
      exact nodup_set _ j _ h.blks hnot
    · intro x hx
      rcases (hmem x).1 hx with ⟨h1, _⟩ | rfl
      · exact (h.reg x h1).upd (hu _) (h.ne_rm h1).symm
      · exact hb.upd (hu _) hne
    · intro x hx
      rcases (hmem x).1 hx with ⟨h1, _⟩ | rfl
      · exact h.ok x h1
      · exact ⟨hok.key, hok.ord, hok.al, hok.top, hok.mark⟩
    · obtain ⟨x, hx, hxk⟩ := h.whole
      exact ⟨x, (hmem x).2 (.inl ⟨hx, by omega⟩), hxk⟩
    · rintro i (h1 | h1 | h1 | ⟨x, hx, rfl⟩)
      · exact h.low i (.inl h1)
      · exact h.low i (.inr (.inl h1))
      · exact h.low i (.inr (.inr (.inl h1)))
      · rcases (hmem x).1 hx with ⟨h1, _⟩ | rfl
        · exact h.low _ (.inr (.inr (.inr ⟨x, h1, rfl⟩)))
        · exact hlow
    · intro x hx
      rcases (hmem x).1 hx with ⟨h1, h2⟩ | rfl
      · exact .inl ⟨h1, h2⟩
      · exact .inr ⟨rfl, rfl, rfl, rfl, rfl⟩
    · intro x hx hk
      exact (hmem x).2 (.inl ⟨hx, hk⟩)

/-- An untyped goes. -/
theorem PRep.dropReg (h : PRep w base pb mb gb K E) {r : Reg} (hr : r ∈ E) (hnw : r.key ≠ 1312) (Tk ty : TypeId) :
    ∃ o E', (Builtin.delete_ #[44, Tk] ty #[.map (some mb), .int .i64 r.key]).run Try.prog w = .ok (.tuple #[]) (putObj w mb o) ∧ PStep w (putObj w mb o) base pb mb gb E K E' ∧ (∀ x, x ∈ E' ↔ (x ∈ E ∧ x.key ≠ r.key)) ∧ E'.length ≤ E.length := by
  obtain ⟨c, hm, hc⟩ := h.map
  cases hq : fnd (r.key : Int) (E.map entR) 0 with
  | none => exact absurd rfl (fnd_nokey hq r hr)
  | some y =>
    obtain ⟨j, v0⟩ := y
    obtain ⟨hj, hjk, h3⟩ := fnd_key hq
    have hrun := run_delete_some (P := Try.prog) hm Try.underlying44 Try.underlying3 Tk ty hq h3
    have hu : ∀ o, Upd (fun b => b = mb) w (putObj w mb o) := fun o => (Upd.refl (fun b => b = mb) w).putObj (.inr rfl) o
    have hmem := mem_erase_iff h.keys hj
    rw [hjk] at hmem
    have hsub : ∀ x, x ∈ E.eraseIdx j → x ∈ E := fun x hx => ((hmem x).1 hx).1
    have hown : ∀ i, Own pb mb gb (E.eraseIdx j) i → Own pb mb gb E i := by
      rintro i (h1 | h1 | h1 | ⟨x, hx, rfl⟩)
      · exact .inl h1
      · exact .inr (.inl h1)
      · exact .inr (.inr (.inl h1))
      · exact .inr (.inr (.inr ⟨x, hsub x hx, rfl⟩))
    refine ⟨_, E.eraseIdx j, hrun, ⟨⟨h.pool.upd (hu _) h.ne_pm.symm, h.page.upd (hu _) h.ne_gm.symm, ⟨c, ?_, fun x hx => hc x (hsub x hx)⟩, h.keys.sublist ((List.eraseIdx_sublist E j).map _), h.borns.sublist ((List.eraseIdx_sublist E j).map _), h.blks.sublist ((List.eraseIdx_sublist E j).map _),
      fun x hx => (h.reg x (hsub x hx)).upd (hu _) (h.ne_rm (hsub x hx)).symm, fun x hx => h.ok x (hsub x hx), h.kinds, ?_, fun i hi => h.low i (hown i hi)⟩, (hu _).mono (fun b _ hb => .inr (.inl hb)), fun i _ ho => hown i ho⟩, hmem, List.length_eraseIdx_le E j⟩
    · show (putObj w mb _).heap[mb]? = _
      rw [putObj_same hm, map_eraseIdx entR]
    · obtain ⟨x, hx, hxk⟩ := h.whole
      exact ⟨x, (hmem x).2 ⟨hx, by omega⟩, hxk⟩
end
end Go.Proofs.Ytjjgdacjfmiamaa
