/- What a Pool looks like in memory, and what its steps turn. -/
import Derived.Test.YtjjgdacjfmiamaaRows
import Derived.Test.YtjjgdacjfmiamaaPoolPlain
import Derived.Test.YtjjgdacjfmiamaaMapAt
namespace Go.Proofs.Ytjjgdacjfmiamaa
open Go.RowKit Go.Lib

def entR (r : Reg) : Ent := ((r.key : Int), .pointer (some ⟨r.blk, 0, none⟩), r.born)
def regCells (r : Reg) : Array Value := #[.int .i64 r.base, .int .i64 r.ord, .int .i64 r.mark]
/-- The number that a page's object bears. -/
def numK (K : Nat → Nat) (i : Nat) : Nat := if K i = 0 then 0 else i
def pageCell (K : Nat → Nat) (i : Nat) : Value := if i % 2 = 0 then .int .i64 (K (i / 2)) else .int .i64 (numK K (i / 2))
def pageCells (K : Nat → Nat) : Array Value := Array.ofFn (n := 128) (fun i => pageCell K i.1)
def setK (K : Nat → Nat) (i k : Nat) : Nat → Nat := fun j => if j = i then k else K j

theorem pageCells_get (K : Nat → Nat) {i : Nat} (h : i < 128) : (pageCells K)[i]? = some (pageCell K i) := by
  unfold pageCells
  rw [Array.getElem?_ofFn, dif_pos h]
theorem pageCells_size (K : Nat → Nat) : (pageCells K).size = 128 := by unfold pageCells; simp
theorem pageCells_set (K : Nat → Nat) (i k : Nat) : ((pageCells K).setIfInBounds (2 * i) (.int .i64 k)).setIfInBounds (2 * i + 1) (.int .i64 (if k = 0 then 0 else i : Nat)) = pageCells (setK K i k) := by
  apply Array.ext_getElem?
  intro j
  by_cases hj : j < 128
  · rw [Array.getElem?_setIfInBounds, Array.getElem?_setIfInBounds, pageCells_get _ hj, pageCells_get _ hj]
    simp only [Array.size_setIfInBounds, pageCells_size]
    unfold pageCell
    by_cases h1 : 2 * i + 1 = j
    · subst h1
      rw [if_pos rfl, if_pos hj, if_neg (show ¬ (2 * i + 1) % 2 = 0 by omega), show (2 * i + 1) / 2 = i by omega]
      unfold numK setK
      simp
    · rw [if_neg h1]
      by_cases h2 : 2 * i = j
      · subst h2
        rw [if_pos rfl, if_pos hj, if_pos (show (2 * i) % 2 = 0 by omega), show (2 * i) / 2 = i by omega]
        unfold setK
        simp
      · rw [if_neg h2]
        have h3 : j / 2 ≠ i := by omega
        unfold numK setK
        simp only [if_neg h3]
  · rw [Array.getElem?_eq_none (by simp only [Array.size_setIfInBounds, pageCells_size]; omega), Array.getElem?_eq_none (by rw [pageCells_size]; omega)]

/-- The blocks of a Pool. -/
def Own (pb mb gb : Nat) (E : List Reg) (i : Nat) : Prop := i = pb ∨ i = mb ∨ i = gb ∨ ∃ r ∈ E, i = r.blk

/-- A Pool at pb: its map (mb), its pages (gb): K their kinds; E its untypeds. -/
structure PRep (w : World) (base pb mb gb : Nat) (K : Nat → Nat) (E : List Reg) : Prop where
  pool : Blk w pb 46 #[.map (some mb), .slice (some ⟨gb, 0, none⟩) 64 64]
  page : Blk w gb 28 (pageCells K)
  map : ∃ c, MapAt w mb (E.map entR) c ∧ ∀ r ∈ E, r.born < c
  keys : (E.map Reg.key).Nodup
  borns : (E.map Reg.born).Nodup
  blks : (E.map Reg.blk).Nodup
  reg : ∀ r ∈ E, Blk w r.blk 50 (regCells r)
  ok : ∀ r ∈ E, RegOk r
  kinds : ∀ i, i < 64 → K i = 0 ∨ (2 ≤ K i ∧ K i ≤ 8)
  whole : ∃ r ∈ E, r.key = 1312
  low : ∀ i, Own pb mb gb E i → base ≤ i

/-- A step of the Pool: from K, E to K', E'; it turns nothing but its own blocks. -/
structure PStep (w w' : World) (base pb mb gb : Nat) (E : List Reg) (K' : Nat → Nat) (E' : List Reg) : Prop where
  rep : PRep w' base pb mb gb K' E'
  upd : Upd (Own pb mb gb E) w w'
  own : ∀ i, i < w.heap.size → Own pb mb gb E' i → Own pb mb gb E i

section
variable {w : World} {base pb mb gb : Nat} {K : Nat → Nat} {E : List Reg}

theorem PRep.lt (h : PRep w base pb mb gb K E) : ∀ i, Own pb mb gb E i → i < w.heap.size := by
  rintro i (rfl | rfl | rfl | ⟨r, hr, rfl⟩)
  · exact h.pool.lt
  · obtain ⟨c, hm, _⟩ := h.map
    exact hm.lt
  · exact h.page.lt
  · exact (h.reg r hr).lt

theorem PRep.grow {w' : World} (h : PRep w base pb mb gb K E) {G : Nat → Prop} (hu : Upd G w w') (hG : ∀ i, Own pb mb gb E i → ¬ G i) : PRep w' base pb mb gb K E where
  pool := h.pool.upd hu (hG _ (.inl rfl))
  page := h.page.upd hu (hG _ (.inr (.inr (.inl rfl))))
  map := by
    obtain ⟨c, hm, hc⟩ := h.map
    exact ⟨c, hm.upd hu (hG _ (.inr (.inl rfl))), hc⟩
  keys := h.keys
  borns := h.borns
  blks := h.blks
  reg := fun r hr => (h.reg r hr).upd hu (hG _ (.inr (.inr (.inr ⟨r, hr, rfl⟩))))
  ok := h.ok
  kinds := h.kinds
  whole := h.whole
  low := h.low

theorem PRep.same (h : PRep w base pb mb gb K E) {w' : World} (hu : Upd (fun _ => False) w w') : PStep w w' base pb mb gb E K E :=
  ⟨h.grow hu (fun _ _ h => h), hu.mono (fun _ _ h => h.elim), fun _ _ h => h⟩

theorem PStep.trans {w1 w2 : World} {K1 K2 : Nat → Nat} {E1 E2 : List Reg} (h : PStep w w1 base pb mb gb E K1 E1) (k : PStep w1 w2 base pb mb gb E1 K2 E2) : PStep w w2 base pb mb gb E K2 E2 :=
  ⟨k.rep, h.upd.trans k.upd (fun i hi ho => h.own i hi ho), fun i hi ho => h.own i hi (k.own i (Nat.lt_of_lt_of_le hi h.upd.size) ho)⟩
theorem PStep.before {w1 w2 : World} {K2 : Nat → Nat} {E2 : List Reg} (hu : Upd (fun _ => False) w w1) (k : PStep w1 w2 base pb mb gb E K2 E2) : PStep w w2 base pb mb gb E K2 E2 :=
  ⟨k.rep, (hu.mono (fun _ _ h => h.elim)).trans k.upd (fun _ _ h => h), fun i hi ho => k.own i (Nat.lt_of_lt_of_le hi hu.size) ho⟩
theorem PStep.behind {w1 w2 : World} {K1 : Nat → Nat} {E1 : List Reg} (k : PStep w w1 base pb mb gb E K1 E1) (hu : Upd (fun _ => False) w1 w2) : PStep w w2 base pb mb gb E K1 E1 :=
  k.trans (k.rep.same hu)

theorem mem_of_key (h : PRep w base pb mb gb K E) {r s : Reg} (hr : r ∈ E) (hs : s ∈ E) (hk : r.key = s.key) : r = s := by
  have hn := h.keys
  clear h
  induction E with
  | nil => cases hr
  | cons a l ih =>
    simp only [List.map_cons, List.nodup_cons] at hn
    rcases List.mem_cons.1 hr with rfl | hr' <;> rcases List.mem_cons.1 hs with rfl | hs'
    · rfl
    · exact absurd (hk ▸ List.mem_map.2 ⟨s, hs', rfl⟩) hn.1
    · exact absurd (hk.symm ▸ List.mem_map.2 ⟨r, hr', rfl⟩) hn.1
    · exact ih hr' hs' hn.2

theorem mem_of_blk (h : PRep w base pb mb gb K E) {r s : Reg} (hr : r ∈ E) (hs : s ∈ E) (hk : r.blk = s.blk) : r = s := by
  have hn := h.blks
  clear h
  induction E with
  | nil => cases hr
  | cons a l ih =>
    simp only [List.map_cons, List.nodup_cons] at hn
    rcases List.mem_cons.1 hr with rfl | hr' <;> rcases List.mem_cons.1 hs with rfl | hs'
    · rfl
    · exact absurd (hk ▸ List.mem_map.2 ⟨s, hs', rfl⟩) hn.1
    · exact absurd (hk.symm ▸ List.mem_map.2 ⟨r, hr', rfl⟩) hn.1
    · exact ih hr' hs' hn.2

theorem ents_keys (E : List Reg) : (E.map entR).map (·.1) = (E.map Reg.key).map (fun k : Nat => (k : Int)) := by
  rw [List.map_map, List.map_map]; rfl
theorem ents_borns (E : List Reg) : (E.map entR).map (·.2.2) = E.map Reg.born := by
  rw [List.map_map]; rfl
theorem nodup_cast : ∀ {l : List Nat}, l.Nodup → (l.map (fun k : Nat => (k : Int))).Nodup
  | [], _ => List.nodup_nil
  | a :: l, h => by
    simp only [List.map_cons, List.nodup_cons] at h ⊢
    refine ⟨fun hm => ?_, nodup_cast h.2⟩
    obtain ⟨b, hb, e⟩ := List.mem_map.1 hm
    have : b = a := by omega
    exact h.1 (this ▸ hb)
theorem PRep.ekeys (h : PRep w base pb mb gb K E) : ((E.map entR).map (·.1)).Nodup := by rw [ents_keys]; exact nodup_cast h.keys

/-- What a key leads to. -/
theorem got_ents (k : Nat) : ∀ (E : List Reg), (E.map Reg.key).Nodup → (∀ r ∈ E, r.key = k → got (k : Int) (E.map entR) = some (.pointer (some ⟨r.blk, 0, none⟩))) ∧ ((∀ r ∈ E, r.key ≠ k) → got (k : Int) (E.map entR) = none)
  | [], _ => ⟨fun r hr => (by cases hr), fun _ => rfl⟩
  | a :: l, hn => by
    simp only [List.map_cons, List.nodup_cons] at hn
    obtain ⟨h1, h2⟩ := got_ents k l hn.2
    refine ⟨fun r hr hk => ?_, fun hk => ?_⟩
    · simp only [List.map_cons, got]
      rcases List.mem_cons.1 hr with rfl | hr'
      · rw [if_pos (by show (k : Int) = (r.key : Int); omega)]
        rfl
      · have hne : k ≠ a.key := fun e => hn.1 (e ▸ hk ▸ List.mem_map.2 ⟨r, hr', rfl⟩)
        rw [if_neg (by show ¬ (k : Int) = (a.key : Int); omega)]
        exact h1 r hr' hk
    · simp only [List.map_cons, got]
      have hne := hk a (.head _)
      rw [if_neg (by show ¬ (k : Int) = (a.key : Int); omega)]
      exact h2 (fun r hr => hk r (.tail _ hr))

theorem PRep.look_yes (h : PRep w base pb mb gb K E) {r : Reg} (hr : r ∈ E) :
    (Instr.lookup 44 (.map (some mb)) (.int .i64 r.key) false).run Try.prog w = .ok (.pointer (some ⟨r.blk, 0, none⟩)) w := by
  obtain ⟨c, hm, _⟩ := h.map
  rw [run_lookup_int (P := Try.prog) (hm.imap h.ekeys) Try.underlying44 Try.underlying3 (z := .pointer none) (by kernel_rfl) r.key, (got_ents r.key E h.keys).1 r hr rfl]
  rfl
theorem PRep.look_no (h : PRep w base pb mb gb K E) {k : Nat} (hk : ∀ r ∈ E, r.key ≠ k) :
    (Instr.lookup 44 (.map (some mb)) (.int .i64 k) false).run Try.prog w = .ok (.pointer none) w := by
  obtain ⟨c, hm, _⟩ := h.map
  rw [run_lookup_int (P := Try.prog) (hm.imap h.ekeys) Try.underlying44 Try.underlying3 (z := .pointer none) (by kernel_rfl) k, (got_ents k E h.keys).2 hk]
  rfl

theorem PRep.ne_pm (h : PRep w base pb mb gb K E) : mb ≠ pb := by
  obtain ⟨c, hm, _⟩ := h.map
  exact hm.ne_blk h.pool
theorem PRep.ne_gm (h : PRep w base pb mb gb K E) : mb ≠ gb := by
  obtain ⟨c, hm, _⟩ := h.map
  exact hm.ne_blk h.page
theorem PRep.ne_rm (h : PRep w base pb mb gb K E) {r : Reg} (hr : r ∈ E) : mb ≠ r.blk := by
  obtain ⟨c, hm, _⟩ := h.map
  exact hm.ne_blk (h.reg r hr)
theorem PRep.ne_gp (h : PRep w base pb mb gb K E) : gb ≠ pb := h.page.ne_ h.pool (by decide)
theorem PRep.ne_rp (h : PRep w base pb mb gb K E) {r : Reg} (hr : r ∈ E) : r.blk ≠ pb := (h.reg r hr).ne_ h.pool (by decide)
theorem PRep.ne_rg (h : PRep w base pb mb gb K E) {r : Reg} (hr : r ∈ E) : r.blk ≠ gb := (h.reg r hr).ne_ h.page (by decide)

/-- A page gets another object, or none. -/
theorem PRep.setPage (h : PRep w base pb mb gb K E) (i k : Nat) (hk : k = 0 ∨ (2 ≤ k ∧ k ≤ 8)) :
    PStep w ((w.setCell ⟨gb, 2 * i, none⟩ (.int .i64 k)).setCell ⟨gb, 2 * i + 1, none⟩ (.int .i64 (if k = 0 then 0 else i : Nat))) base pb mb gb E (setK K i k) E := by
  have hu : Upd (fun b => b = gb) w ((w.setCell ⟨gb, 2 * i, none⟩ (.int .i64 k)).setCell ⟨gb, 2 * i + 1, none⟩ (.int .i64 (if k = 0 then 0 else i : Nat))) :=
    ((Upd.refl (fun b => b = gb) w).setCell (p := ⟨gb, 2 * i, none⟩) (.inr rfl) _).setCell (p := ⟨gb, 2 * i + 1, none⟩) (.inr rfl) _
  refine ⟨⟨h.pool.upd hu h.ne_gp.symm, ?_, ?_, h.keys, h.borns, h.blks, fun r hr => (h.reg r hr).upd hu (h.ne_rg hr), h.ok, fun j hj => ?_, h.whole, h.low⟩, hu.mono (fun b _ hb => .inr (.inr (.inl hb))), fun _ _ ho => ho⟩
  · have := (h.page.set_ (2 * i) (.int .i64 k)).set_ (2 * i + 1) (.int .i64 (if k = 0 then 0 else i : Nat))
    rw [pageCells_set K i k] at this
    exact this
  · obtain ⟨c, hm, hc⟩ := h.map
    exact ⟨c, hm.upd hu h.ne_gm, hc⟩
  · unfold setK
    split
    · exact hk
    · exact h.kinds j hj

/-- An untyped's mark is another. -/
def setMark (E : List Reg) (k m : Nat) : List Reg := E.map (fun x => if x.key = k then { x with mark := m } else x)
theorem setMark_map {α : Type} (f : Reg → α) (hf : ∀ x m, f { x with mark := m } = f x) (E : List Reg) (k m : Nat) : (setMark E k m).map f = E.map f := by
  unfold setMark
  rw [List.map_map]
  apply List.map_congr_left
  intro x _
  show f (if x.key = k then { x with mark := m } else x) = f x
  split
  · exact hf x m
  · rfl
theorem setMark_mem {E : List Reg} {k m : Nat} {x : Reg} : x ∈ setMark E k m ↔ (x ∈ E ∧ x.key ≠ k) ∨ ∃ r ∈ E, r.key = k ∧ x = { r with mark := m } := by
  unfold setMark
  rw [List.mem_map]
  constructor
  · rintro ⟨y, hy, rfl⟩
    split
    · rename_i hk
      exact .inr ⟨y, hy, hk, rfl⟩
    · rename_i hk
      exact .inl ⟨hy, hk⟩
  · rintro (⟨h1, h2⟩ | ⟨r, hr, hk, rfl⟩)
    · exact ⟨x, h1, by rw [if_neg h2]⟩
    · exact ⟨r, hr, by rw [if_pos hk]⟩

theorem PRep.setMark (h : PRep w base pb mb gb K E) {r : Reg} (hr : r ∈ E) (m : Nat) (hm : m ≤ 2 ^ r.ord) :
    PStep w (w.setCell ⟨r.blk, 2, none⟩ (.int .i64 m)) base pb mb gb E K (setMark E r.key m) := by
  have hu : Upd (fun b => b = r.blk) w (w.setCell ⟨r.blk, 2, none⟩ (.int .i64 m)) := (Upd.refl (fun b => b = r.blk) w).setCell (p := ⟨r.blk, 2, none⟩) (.inr rfl) _
  have hown : ∀ i, Own pb mb gb (Go.Proofs.Ytjjgdacjfmiamaa.setMark E r.key m) i → Own pb mb gb E i := by
    rintro i (h1 | h1 | h1 | ⟨x, hx, rfl⟩)
    · exact .inl h1
    · exact .inr (.inl h1)
    · exact .inr (.inr (.inl h1))
    · rcases setMark_mem.1 hx with ⟨hx, _⟩ | ⟨s, hs, _, rfl⟩
      · exact .inr (.inr (.inr ⟨x, hx, rfl⟩))
      · exact .inr (.inr (.inr ⟨s, hs, rfl⟩))
  refine ⟨⟨h.pool.upd hu (fun e => h.ne_rp hr e.symm), h.page.upd hu (fun e => h.ne_rg hr e.symm), ?_, ?_, ?_, ?_, ?_, ?_, h.kinds, ?_, fun i hi => h.low i (hown i hi)⟩, hu.mono (fun b _ hb => .inr (.inr (.inr ⟨r, hr, hb⟩))), fun i _ ho => hown i ho⟩
  · obtain ⟨c, hmm, hc⟩ := h.map
    refine ⟨c, ?_, fun x hx => ?_⟩
    · rw [setMark_map entR (fun _ _ => rfl)]
      exact hmm.upd hu (h.ne_rm hr)
    · rcases setMark_mem.1 hx with ⟨hx, _⟩ | ⟨s, hs, _, rfl⟩
      · exact hc x hx
      · exact hc s hs
  · rw [setMark_map Reg.key (fun _ _ => rfl)]; exact h.keys
  · rw [setMark_map Reg.born (fun _ _ => rfl)]; exact h.borns
  · rw [setMark_map Reg.blk (fun _ _ => rfl)]; exact h.blks
  · intro x hx
    rcases setMark_mem.1 hx with ⟨hx, hk⟩ | ⟨s, hs, hk, rfl⟩
    · exact (h.reg x hx).upd hu (fun e => hk (by rw [mem_of_blk h hx hr e]))
    · obtain rfl := mem_of_key h hs hr hk
      exact (h.reg s hs).set_ 2 _
  · intro x hx
    rcases setMark_mem.1 hx with ⟨hx, hk⟩ | ⟨s, hs, hk, rfl⟩
    · exact h.ok x hx
    · obtain rfl := mem_of_key h hs hr hk
      have := h.ok s hs
      exact ⟨this.key, this.ord, this.al, this.top, hm⟩
  · obtain ⟨x, hx, hk⟩ := h.whole
    by_cases e : x.key = r.key
    · exact ⟨{ x with mark := m }, setMark_mem.2 (.inr ⟨x, hx, e, rfl⟩), hk⟩
    · exact ⟨x, setMark_mem.2 (.inl ⟨hx, e⟩), hk⟩

theorem ents_get {E : List Reg} {j : Nat} {k : Int} {v : Value} {b : Nat} (h : (E.map entR)[j]? = some (k, v, b)) : ∃ hj : j < E.length, (E[j].key : Int) = k ∧ E[j].born = b := by
  rw [List.getElem?_map] at h
  cases hq : E[j]? with
  | none => rw [hq] at h; cases h
  | some x =>
    rw [hq] at h
    obtain ⟨hj, hx⟩ := List.getElem?_eq_some_iff.1 hq
    simp only [Option.map_some, entR, Option.some.injEq, Prod.mk.injEq] at h
    exact ⟨hj, by rw [hx]; exact h.1, by rw [hx]; exact h.2.2⟩

theorem mem_set_iff {E : List Reg} (hn : (E.map Reg.key).Nodup) {j : Nat} (hj : j < E.length) {r : Reg} : ∀ x, x ∈ E.set j r ↔ (x ∈ E ∧ x.key ≠ E[j].key) ∨ x = r := by
  induction E generalizing j with
  | nil => simp at hj
  | cons a l ih =>
    simp only [List.map_cons, List.nodup_cons] at hn
    intro x
    cases j with
    | zero =>
      simp only [List.set_cons_zero, List.mem_cons, List.getElem_cons_zero]
      constructor
      · rintro (h | h)
        · exact .inr h
        · exact .inl ⟨.inr h, fun e => hn.1 (e ▸ List.mem_map.2 ⟨x, h, rfl⟩)⟩
      · rintro (⟨h | h, h2⟩ | h)
        · exact absurd (by rw [h]) h2
        · exact .inr h
        · exact .inl h
    | succ j =>
      simp only [List.set_cons_succ, List.mem_cons, List.getElem_cons_succ]
      have hjl : j < l.length := by simpa using hj
      rw [ih hn.2 hjl]
      constructor
      · rintro (h | h | h)
        · refine .inl ⟨.inl h, fun e => hn.1 ?_⟩
          rw [← h, e]
          exact List.mem_map.2 ⟨l[j], List.getElem_mem _, rfl⟩
        · exact .inl ⟨.inr h.1, h.2⟩
        · exact .inr h
      · rintro (⟨h | h, h2⟩ | h)
        · exact .inl h
        · exact .inr (.inl ⟨h, h2⟩)
        · exact .inr (.inr h)

theorem mem_erase_iff {E : List Reg} (hn : (E.map Reg.key).Nodup) {j : Nat} (hj : j < E.length) : ∀ x, x ∈ E.eraseIdx j ↔ (x ∈ E ∧ x.key ≠ E[j].key) := by
  induction E generalizing j with
  | nil => simp at hj
  | cons a l ih =>
    simp only [List.map_cons, List.nodup_cons] at hn
    intro x
    cases j with
    | zero =>
      simp only [List.eraseIdx_cons_zero, List.mem_cons, List.getElem_cons_zero]
      constructor
      · intro h
        exact ⟨.inr h, fun e => hn.1 (e ▸ List.mem_map.2 ⟨x, h, rfl⟩)⟩
      · rintro ⟨h | h, h2⟩
        · exact absurd (by rw [h]) h2
        · exact h
    | succ j =>
      simp only [List.eraseIdx_cons_succ, List.mem_cons, List.getElem_cons_succ]
      have hjl : j < l.length := by simpa using hj
      rw [ih hn.2 hjl]
      constructor
      · rintro (h | h)
        · refine ⟨.inl h, fun e => hn.1 ?_⟩
          rw [← h, e]
          exact List.mem_map.2 ⟨l[j], List.getElem_mem _, rfl⟩
        · exact ⟨.inr h.1, h.2⟩
      · rintro ⟨h | h, h2⟩
        · exact .inl h
        · exact .inr ⟨h, h2⟩
end
end Go.Proofs.Ytjjgdacjfmiamaa
