/- SchedTurns in plain Lean: who is in which line, whose turn it is. -/
import Derived.Test.YtceihchkedjgbaaDomAt
import Derived.Test.YtceihchkedjgbaaBlock
namespace Go.Proofs.Ytceihchkedjgbaa
open Go.RowKit Go.Lib

/-- Six threads, of two domains by turns: which are ready, which priority each has, in which lines they stand. -/
structure LInv (rd : Nat → Bool) (pr : Nat → Nat) (th : Int → Option Th) (ln : Nat → List Int) : Prop where
  pr8 : ∀ k : Nat, k < 6 → pr k < 8
  ents : ∀ k : Nat, k < 6 → ∃ e, th (k : Int) = some e ∧ e.dom = k % 2 ∧ e.prio = pr k ∧ e.ready = rd k ∧ e.left ≤ 5
  nodup : ∀ i, i < 64 → (ln i).Nodup
  mem : ∀ i, i < 64 → ∀ t, t ∈ ln i → ∃ k : Nat, k < 6 ∧ t = (k : Int) ∧ rd k = true ∧ (k % 2) * 8 + pr k = i
  all : ∀ k : Nat, k < 6 → rd k = true → (k : Int) ∈ ln ((k % 2) * 8 + pr k)
  tails : ∀ i, i < 64 → ∀ t, t ∈ (ln i).tail → ∀ e, th t = some e → e.left = 5

theorem short_list : ∀ (n : Nat) (L : List Int), L.Nodup → (∀ t, t ∈ L → ∃ k : Nat, k < n ∧ t = (k : Int)) → L.length ≤ n
  | 0, L, _, h => by
    cases L with
    | nil => exact Nat.le_refl _
    | cons a l =>
      obtain ⟨k, hk, _⟩ := h a (.head _)
      omega
  | n + 1, L, hn, h => by
    have h1 := short_list n (L.erase (n : Int)) (hn.erase _) (fun t ht => by
      obtain ⟨h1, h2⟩ := hn.mem_erase_iff.1 ht
      obtain ⟨k, hk, rfl⟩ := h t h2
      exact ⟨k, by omega, rfl⟩)
    have h2 : L.length ≤ (L.erase (n : Int)).length + 1 := by
      rw [List.length_erase]
      split <;> omega
    omega

theorem LInv.len {rd : Nat → Bool} {pr : Nat → Nat} {th : Int → Option Th} {ln : Nat → List Int} (h : LInv rd pr th ln) (i : Nat) (hi : i < 64) : (ln i).length ≤ 1000000 :=
  Nat.le_trans (short_list 6 _ (h.nodup i hi) (fun t ht => by
    obtain ⟨k, a, b, _⟩ := h.mem i hi t ht
    exact ⟨k, a, b⟩)) (by decide)

theorem LInv.wf {rd : Nat → Bool} {pr : Nat → Nat} {th : Int → Option Th} {ln : Nat → List Int} (h : LInv rd pr th ln) : WF th ln := by
  intro i hi
  refine ⟨h.len i hi, h.nodup i hi, fun t ht => ?_, h.tails i hi⟩
  obtain ⟨k, hk, rfl, hr, hx⟩ := h.mem i hi t ht
  obtain ⟨e, a, b, c, d, f⟩ := h.ents k hk
  have := h.pr8 k hk
  exact ⟨e, a, by rw [b, c]; exact hx, by omega, by omega, f⟩

theorem without_out {L : List Int} {t : Int} (h : t ∉ L) : without L t = L := by
  unfold without
  exact List.filter_eq_self.2 (fun x hx => by
    have : x ≠ t := fun e => h (e ▸ hx)
    simpa using this)

theorem mem_without {L : List Int} {t x : Int} : x ∈ without L t ↔ x ∈ L ∧ x ≠ t := by
  unfold without
  rw [List.mem_filter]
  simp

theorem mem_tail_without {L : List Int} {t x : Int} (h : x ∈ (without L t).tail) : x ∈ L.tail := by
  cases L with
  | nil => exact h
  | cons a l =>
    rw [List.tail_cons]
    unfold without at h
    rw [List.filter_cons] at h
    split at h
    · rw [List.tail_cons] at h
      exact (List.mem_filter.1 h).1
    · exact (List.mem_filter.1 (List.mem_of_mem_tail h)).1

theorem mem_tail_snoc {L : List Int} {t x : Int} (h : x ∈ (L ++ [t]).tail) : x ∈ L.tail ∨ x = t := by
  cases L with
  | nil => simp at h
  | cons a l =>
    simp only [List.cons_append, List.tail_cons, List.mem_append, List.mem_singleton] at h ⊢
    exact h

theorem nodup_without {L : List Int} (h : L.Nodup) (t : Int) : (without L t).Nodup := h.sublist List.filter_sublist

theorem nodup_snoc {L : List Int} {t : Int} (h : L.Nodup) (ht : t ∉ L) : (L ++ [t]).Nodup := by
  rw [List.nodup_append]
  refine ⟨h, by simp, fun a ha b hb e => ?_⟩
  rw [List.mem_singleton] at hb
  exact ht (by rw [← hb, ← e]; exact ha)

/-- A thread leaves its line and may go to the end of one: where it is ready. -/
theorem LInv.edit {rd : Nat → Bool} {pr : Nat → Nat} {th : Int → Option Th} {ln ln' : Nat → List Int} (h : LInv rd pr th ln) (k : Nat) (hk : k < 6) (e' : Th) (hd : e'.dom = k % 2) (hp : e'.prio < 8) (hl : e'.left ≤ 5)
    (hl5 : e'.ready = true → e'.left = 5) (hln : ∀ i, i < 64 → ln' i = if e'.ready = true ∧ i = (k % 2) * 8 + e'.prio then without (ln i) (k : Int) ++ [(k : Int)] else without (ln i) (k : Int)) :
    LInv (upd rd k e'.ready) (upd pr k e'.prio) (upd th (k : Int) (some e')) ln' where
  pr8 := fun j hj => by
    by_cases e : j = k
    · rw [e, upd_self]; exact hp
    · rw [upd_ne _ _ _ _ e]; exact h.pr8 j hj
  ents := fun j hj => by
    by_cases e : j = k
    · subst e
      exact ⟨e', upd_self _ _ _, hd, (upd_self _ _ _).symm, (upd_self _ _ _).symm, hl⟩
    · rw [upd_ne _ _ _ _ e, upd_ne _ _ _ _ e, upd_ne _ _ _ _ (by omega)]
      exact h.ents j hj
  nodup := fun i hi => by
    rw [hln i hi]
    split
    · exact nodup_snoc (nodup_without (h.nodup i hi) _) (fun hx => (mem_without.1 hx).2 rfl)
    · exact nodup_without (h.nodup i hi) _
  mem := fun i hi t ht => by
    have key : t ∈ without (ln i) (k : Int) → ∃ j : Nat, j < 6 ∧ t = (j : Int) ∧ upd rd k e'.ready j = true ∧ (j % 2) * 8 + upd pr k e'.prio j = i := fun hx => by
      obtain ⟨h1, h2⟩ := mem_without.1 hx
      obtain ⟨j, a, rfl, b, c⟩ := h.mem i hi t h1
      have : j ≠ k := fun e => h2 (by rw [e])
      exact ⟨j, a, rfl, by rw [upd_ne _ _ _ _ this]; exact b, by rw [upd_ne _ _ _ _ this]; exact c⟩
    rw [hln i hi] at ht
    split at ht
    · rename_i hc
      rcases List.mem_append.1 ht with h1 | h1
      · exact key h1
      · rw [List.mem_singleton] at h1
        exact ⟨k, hk, h1, by rw [upd_self]; exact hc.1, by rw [upd_self]; exact hc.2.symm⟩
    · exact key ht
  all := fun j hj hr => by
    by_cases e : j = k
    · subst e
      rw [upd_self] at hr
      rw [upd_self, hln _ (by omega), if_pos ⟨hr, rfl⟩]
      exact List.mem_append.2 (.inr (List.mem_singleton.2 rfl))
    · rw [upd_ne _ _ _ _ e] at hr
      rw [upd_ne _ _ _ _ e]
      have h1 := h.all j hj hr
      have h2 : (j : Int) ∈ without (ln ((j % 2) * 8 + pr j)) (k : Int) := mem_without.2 ⟨h1, by omega⟩
      rw [hln _ (by have := h.pr8 j hj; omega)]
      split
      · exact List.mem_append.2 (.inl h2)
      · exact h2
  tails := fun i hi t ht e he => by
    by_cases ek : t = (k : Int)
    · subst ek
      rw [upd_self] at he
      obtain rfl := Option.some.inj he
      rw [hln i hi] at ht
      split at ht
      · rename_i hc
        exact hl5 hc.1
      · exact absurd rfl (mem_without.1 (List.mem_of_mem_tail ht)).2
    · rw [upd_ne _ _ _ _ ek] at he
      refine h.tails i hi t ?_ e he
      rw [hln i hi] at ht
      split at ht
      · rcases mem_tail_snoc ht with h1 | h1
        · exact mem_tail_without h1
        · exact absurd h1 ek
      · exact mem_tail_without ht

theorem LInv.notin {rd : Nat → Bool} {pr : Nat → Nat} {th : Int → Option Th} {ln : Nat → List Int} (h : LInv rd pr th ln) (k : Nat) (i : Nat) (hi : i < 64) (hc : rd k = false ∨ i ≠ (k % 2) * 8 + pr k) : without (ln i) (k : Int) = ln i := by
  unfold without
  refine List.filter_eq_self.2 (fun x hx => ?_)
  obtain ⟨j, a, rfl, b, c⟩ := h.mem i hi x hx
  have : j ≠ k := fun e => by
    subst e
    rcases hc with hc | hc
    · rw [b] at hc; cases hc
    · exact hc c.symm
  simp
  omega

/-- The first of a line loses a tick. -/
theorem LInv.tick {rd : Nat → Bool} {pr : Nat → Nat} {th : Int → Option Th} {ln : Nat → List Int} (h : LInv rd pr th ln) (i : Nat) (hi : i < 64) (t : Int) (r : List Int) (hl : ln i = t :: r) : LInv rd pr (tick th t) ln where
  pr8 := h.pr8
  ents := fun k hk => by
    obtain ⟨e, a, b, c, d, f⟩ := h.ents k hk
    unfold Go.Proofs.Ytceihchkedjgbaa.tick
    by_cases ek : (k : Int) = t
    · rw [← ek, upd_self, a]
      exact ⟨_, rfl, b, c, d, Nat.le_trans (Nat.sub_le _ _) f⟩
    · rw [upd_ne _ _ _ _ ek]
      exact ⟨e, a, b, c, d, f⟩
  nodup := h.nodup
  mem := h.mem
  all := h.all
  tails := fun j hj x hx e he => by
    have hne : x ≠ t := fun ex => by
      subst ex
      obtain ⟨k, a, rfl, b, c⟩ := h.mem j hj _ (List.mem_of_mem_tail hx)
      obtain ⟨k', a', b', b'', c'⟩ := h.mem i hi (k : Int) (by rw [hl]; exact .head _)
      obtain rfl : k = k' := by omega
      obtain rfl : i = j := by omega
      have hn := h.nodup i hi
      rw [hl] at hn hx
      exact (List.nodup_cons.1 hn).1 hx
    unfold Go.Proofs.Ytceihchkedjgbaa.tick at he
    rw [upd_ne _ _ _ _ hne] at he
    exact h.tails j hj x hx e he

/-- What may be said of the answer of Next. -/
def Best (rd : Nat → Bool) (pr : Nat → Nat) (d : Nat) (t : Int) : Prop :=
  (t = -1 ∧ ∀ k : Nat, k < 6 → k % 2 = d → rd k = false) ∨ ∃ k : Nat, k < 6 ∧ t = (k : Int) ∧ k % 2 = d ∧ rd k = true ∧ ∀ j : Nat, j < 6 → j % 2 = d → rd j = true → pr j ≤ pr k

theorem upd_same {α β : Type} [DecidableEq α] (f : α → β) (a : α) (b : β) (h : f a = b) : upd f a b = f := by
  funext x
  unfold upd
  by_cases e : x = a
  · rw [if_pos e, e, h]
  · rw [if_neg e]

theorem LInv.next {rd : Nat → Bool} {pr : Nat → Nat} {th th' : Int → Option Th} {ln ln' : Nat → List Int} {d : Nat} {t : Int} (h : LInv rd pr th ln) (hd : d < 8) (hn : NextRes d th ln t th' ln') : LInv rd pr th' ln' ∧ Best rd pr d t := by
  have top : ∀ p, p < 8 → (∀ q, q < 8 → p < q → ln (d * 8 + q) = []) → ∀ j : Nat, j < 6 → j % 2 = d → rd j = true → pr j ≤ p := fun p hp hq j hj hjd hr => by
    rcases Nat.lt_or_ge p (pr j) with h1 | h1
    · have h2 := h.all j hj hr
      rw [hjd, hq (pr j) (h.pr8 j hj) h1] at h2
      cases h2
    · exact h1
  cases hn with
  | nobody hz =>
    refine ⟨h, .inl ⟨rfl, fun k hk hkd => ?_⟩⟩
    cases hr : rd k with
    | false => rfl
    | true =>
      have h2 := h.all k hk hr
      rw [hkd, hz (pr k) (h.pr8 k hk)] at h2
      cases h2
  | first p hp hq _ r hl e he hz =>
    refine ⟨h.tick (d * 8 + p) (by omega) _ r hl, .inr ?_⟩
    obtain ⟨k, a, rfl, b, c⟩ := h.mem (d * 8 + p) (by omega) _ (by rw [hl]; exact .head _)
    have := h.pr8 k a
    exact ⟨k, a, rfl, by omega, b, fun j hj hjd hr => by have := top p hp hq j hj hjd hr; omega⟩
  | spent p hp hq t0 r hl e he hz _ r' hr' =>
    obtain ⟨k, a, rfl, b, c⟩ := h.mem (d * 8 + p) (by omega) t0 (by rw [hl]; exact .head _)
    have hk8 := h.pr8 k a
    obtain ⟨e0, a0, b0, c0, d0, f0⟩ := h.ents k a
    rw [he] at a0
    obtain rfl := Option.some.inj a0
    have hE := h.edit (ln' := upd ln (d * 8 + p) (t :: r')) k a { e with left := 5, ready := true } b0 (show e.prio < 8 by omega) (Nat.le_refl 5) (fun _ => rfl) (fun i hi => by
      by_cases ei : i = d * 8 + p
      · rw [if_pos ⟨rfl, by show i = k % 2 * 8 + e.prio; omega⟩, ei, upd_self, hl, hr']
      · rw [if_neg (fun hx => ei (by have := hx.2; have : i = k % 2 * 8 + e.prio := this; omega)), upd_ne _ _ _ _ ei, h.notin k i hi (.inr (by omega))])
    rw [upd_same rd k _ b, upd_same pr k _ c0.symm] at hE
    refine ⟨hE.tick (d * 8 + p) (by omega) t r' (by rw [upd_self]), .inr ?_⟩
    obtain ⟨k', a', rfl, b', c'⟩ := hE.mem (d * 8 + p) (by omega) t (by rw [upd_self]; exact .head _)
    have := h.pr8 k' a'
    exact ⟨k', a', rfl, by omega, b', fun j hj hjd hr => by have := top p hp hq j hj hjd hr; omega⟩

theorem LInv.ready {rd : Nat → Bool} {pr : Nat → Nat} {th : Int → Option Th} {ln : Nat → List Int} (h : LInv rd pr th ln) (k : Nat) (hk : k < 6) (e : Th) (he : th (k : Int) = some e) :
    LInv (upd rd k true) pr (upd th (k : Int) (some { e with left := 5, ready := true })) (upd ln (e.dom * 8 + e.prio) (without (ln (e.dom * 8 + e.prio)) (k : Int) ++ [(k : Int)])) := by
  obtain ⟨e0, a0, b0, c0, d0, f0⟩ := h.ents k hk
  rw [he] at a0
  obtain rfl := Option.some.inj a0
  have hk8 := h.pr8 k hk
  have hE := h.edit (ln' := upd ln (e.dom * 8 + e.prio) (without (ln (e.dom * 8 + e.prio)) (k : Int) ++ [(k : Int)])) k hk { e with left := 5, ready := true } b0 (show e.prio < 8 by omega) (Nat.le_refl 5) (fun _ => rfl) (fun i hi => by
    by_cases ei : i = e.dom * 8 + e.prio
    · rw [if_pos ⟨rfl, by show i = k % 2 * 8 + e.prio; omega⟩, ei, upd_self]
    · rw [if_neg (fun hx => ei (by have := hx.2; have : i = k % 2 * 8 + e.prio := this; omega)), upd_ne _ _ _ _ ei, h.notin k i hi (.inr (by omega))])
  rw [upd_same pr k _ c0.symm] at hE
  exact hE

theorem LInv.block {rd : Nat → Bool} {pr : Nat → Nat} {th : Int → Option Th} {ln : Nat → List Int} (h : LInv rd pr th ln) (k : Nat) (hk : k < 6) (e : Th) (he : th (k : Int) = some e) :
    LInv (upd rd k false) pr (upd th (k : Int) (some { e with left := 0, ready := false })) (upd ln (e.dom * 8 + e.prio) (without (ln (e.dom * 8 + e.prio)) (k : Int))) := by
  obtain ⟨e0, a0, b0, c0, d0, f0⟩ := h.ents k hk
  rw [he] at a0
  obtain rfl := Option.some.inj a0
  have hk8 := h.pr8 k hk
  have hE := h.edit (ln' := upd ln (e.dom * 8 + e.prio) (without (ln (e.dom * 8 + e.prio)) (k : Int))) k hk { e with left := 0, ready := false } b0 (show e.prio < 8 by omega) (Nat.zero_le 5) (fun hx => by cases hx) (fun i hi => by
    rw [if_neg (fun hx => by cases hx.1)]
    by_cases ei : i = e.dom * 8 + e.prio
    · rw [ei, upd_self]
    · rw [upd_ne _ _ _ _ ei, h.notin k i hi (.inr (by omega))])
  rw [upd_same pr k _ c0.symm] at hE
  exact hE

theorem LInv.prio_old {rd : Nat → Bool} {pr : Nat → Nat} {th : Int → Option Th} {ln : Nat → List Int} (h : LInv rd pr th ln) (k : Nat) (hk : k < 6) (e : Th) (he : th (k : Int) = some e) (hr : e.ready = false) (p : Nat) (hp : p < 8) :
    LInv rd (upd pr k p) (upd th (k : Int) (some { e with prio := p })) (upd ln (e.dom * 8 + e.prio) (without (ln (e.dom * 8 + e.prio)) (k : Int))) := by
  obtain ⟨e0, a0, b0, c0, d0, f0⟩ := h.ents k hk
  rw [he] at a0
  obtain rfl := Option.some.inj a0
  have hE := h.edit (ln' := upd ln (e.dom * 8 + e.prio) (without (ln (e.dom * 8 + e.prio)) (k : Int))) k hk { e with prio := p } b0 hp f0 (fun hx => by rw [show ({ e with prio := p } : Th).ready = e.ready from rfl, hr] at hx; cases hx) (fun i hi => by
    rw [if_neg (fun hx => by rw [show ({ e with prio := p } : Th).ready = e.ready from rfl, hr] at hx; cases hx.1)]
    by_cases ei : i = e.dom * 8 + e.prio
    · rw [ei, upd_self]
    · rw [upd_ne _ _ _ _ ei, h.notin k i hi (.inr (by omega))])
  rw [upd_same rd k _ d0.symm] at hE
  exact hE

theorem LInv.prio_new {rd : Nat → Bool} {pr : Nat → Nat} {th : Int → Option Th} {ln : Nat → List Int} (h : LInv rd pr th ln) (k : Nat) (hk : k < 6) (e : Th) (he : th (k : Int) = some e) (hr : e.ready = true) (p : Nat) (hp : p < 8) :
    LInv rd (upd pr k p) (upd th (k : Int) (some { e with prio := p, left := 5, ready := true })) (upd (upd ln (e.dom * 8 + e.prio) (without (ln (e.dom * 8 + e.prio)) (k : Int))) (e.dom * 8 + p) (without (upd ln (e.dom * 8 + e.prio) (without (ln (e.dom * 8 + e.prio)) (k : Int)) (e.dom * 8 + p)) (k : Int) ++ [(k : Int)])) := by
  obtain ⟨e0, a0, b0, c0, d0, f0⟩ := h.ents k hk
  rw [he] at a0
  obtain rfl := Option.some.inj a0
  have ww : ∀ L : List Int, without (without L (k : Int)) (k : Int) = without L (k : Int) := fun L => without_out (fun hx => (mem_without.1 hx).2 rfl)
  have hE := h.edit (ln' := upd (upd ln (e.dom * 8 + e.prio) (without (ln (e.dom * 8 + e.prio)) (k : Int))) (e.dom * 8 + p) (without (upd ln (e.dom * 8 + e.prio) (without (ln (e.dom * 8 + e.prio)) (k : Int)) (e.dom * 8 + p)) (k : Int) ++ [(k : Int)])) k hk { e with prio := p, left := 5, ready := true } b0 hp (Nat.le_refl 5) (fun _ => rfl) (fun i hi => by
    have hwi : without (upd ln (e.dom * 8 + e.prio) (without (ln (e.dom * 8 + e.prio)) (k : Int)) i) (k : Int) = without (ln i) (k : Int) := by
      by_cases ei : i = e.dom * 8 + e.prio
      · rw [ei, upd_self, ww]
      · rw [upd_ne _ _ _ _ ei]
    by_cases ei : i = e.dom * 8 + p
    · rw [if_pos ⟨rfl, by show i = k % 2 * 8 + p; omega⟩, ← ei, upd_self, hwi]
    · rw [if_neg (fun hx => ei (by have := hx.2; have : i = k % 2 * 8 + p := this; omega)), upd_ne _ _ _ _ ei]
      by_cases ei2 : i = e.dom * 8 + e.prio
      · rw [ei2, upd_self]
      · rw [upd_ne _ _ _ _ ei2, h.notin k i hi (.inr (by omega))])
  rw [upd_same rd k _ (by rw [← d0]; exact hr)] at hE
  exact hE

/-- Which turn it is and what is left of it, after N ticks. -/
def TimeInv (A B N turn left : Nat) : Prop :=
  (turn = 0 ∧ left ≤ A ∧ N % (A + B) = A - left) ∨ (turn = 1 ∧ 0 < left ∧ left ≤ B ∧ N % (A + B) = A + B - left) ∨ (turn = 1 ∧ left = 0 ∧ N % (A + B) = 0)

theorem succ_mod (N S : Nat) (hS : 0 < S) : (N + 1) % S = if N % S + 1 = S then 0 else N % S + 1 := by
  have h1 : N % S < S := Nat.mod_lt _ hS
  rw [Nat.add_mod]
  split
  · rename_i h
    by_cases hS1 : S = 1
    · subst hS1; omega
    · rw [Nat.mod_eq_of_lt (show 1 < S by omega), h, Nat.mod_self]
  · rename_i h
    rw [Nat.mod_eq_of_lt (show 1 < S by omega), Nat.mod_eq_of_lt (by omega)]

/-- Whose turn it is. -/
def domOf (A B N : Nat) : Nat := if N % (A + B) < A then 1 else 0

theorem TimeInv.start (A B : Nat) : TimeInv A B 0 0 A := .inl ⟨rfl, Nat.le_refl _, by rw [Nat.zero_mod]; omega⟩

theorem TimeInv.lasts {A B N turn left : Nat} (h : TimeInv A B N turn left) (hA : 0 < A) (hB : 0 < B) (hl : 0 < left) : domOf A B N = 1 - turn ∧ turn < 2 ∧ TimeInv A B (N + 1) turn (left - 1) := by
  have hs := succ_mod N (A + B) (by omega)
  unfold domOf
  rcases h with ⟨rfl, a, b⟩ | ⟨rfl, a, b, c⟩ | ⟨rfl, a, b⟩
  · refine ⟨by rw [if_pos (by omega)], by omega, .inl ⟨rfl, by omega, ?_⟩⟩
    rw [hs, if_neg (by omega)]
    omega
  · refine ⟨by rw [if_neg (by omega)], by omega, .inr ?_⟩
    by_cases h1 : left = 1
    · exact .inr ⟨rfl, by omega, by rw [hs, if_pos (by omega)]⟩
    · exact .inl ⟨rfl, by omega, by omega, by rw [hs, if_neg (by omega)]; omega⟩
  · omega

theorem TimeInv.turns {A B N turn : Nat} (h : TimeInv A B N turn 0) (hA : 0 < A) (hB : 0 < B) : domOf A B N = turn ∧ turn < 2 ∧ TimeInv A B (N + 1) (1 - turn) ((if turn = 0 then B else A) - 1) := by
  have hs := succ_mod N (A + B) (by omega)
  unfold domOf
  rcases h with ⟨rfl, a, b⟩ | ⟨rfl, a, b, c⟩ | ⟨rfl, a, b⟩
  · refine ⟨by rw [if_neg (by omega)], by omega, .inr ?_⟩
    rw [if_pos rfl]
    by_cases h1 : B = 1
    · exact .inr ⟨rfl, by omega, by rw [hs, if_pos (by omega)]⟩
    · exact .inl ⟨rfl, by omega, by omega, by rw [hs, if_neg (by omega)]; omega⟩
  · omega
  · refine ⟨by rw [if_pos (by omega)], by omega, .inl ⟨rfl, ?_, ?_⟩⟩
    · rw [if_neg (by omega)]
      omega
    · rw [hs, if_neg (by omega), if_neg (by omega)]
      omega
end Go.Proofs.Ytceihchkedjgbaa
