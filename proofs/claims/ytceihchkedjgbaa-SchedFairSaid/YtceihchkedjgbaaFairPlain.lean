/- Round robin in plain Lean: threads of one priority, five ticks each. -/
import Derived.Test.YtceihchkedjgbaaNew3
namespace Go.Proofs.Ytceihchkedjgbaa
open Go.RowKit Go.Lib

/-- The line after j threads have come. -/
def firstN (j : Nat) : List Int := (List.range j).map (fun i => ((10 + i : Nat) : Int))
/-- The line of k threads, turned q times. -/
def rotN (k q : Nat) : List Int := (List.range k).map (fun j => ((10 + (q + j) % k : Nat) : Int))

structure AddP (j : Nat) (th : Int → Option Th) (ln : Nat → List Int) : Prop where
  line : ln 28 = firstN j
  others : ∀ i, i ≠ 28 → ln i = []
  old : ∀ i, i < j → ∃ e, th ((10 + i : Nat) : Int) = some e ∧ e.dom = 3 ∧ e.prio = 4 ∧ e.left = 5
  fresh : ∀ i, j ≤ i → th ((10 + i : Nat) : Int) = none

theorem AddP.start : AddP 0 (fun _ => none) (fun _ => []) := ⟨rfl, fun _ _ => rfl, fun i h => by omega, fun _ _ => rfl⟩

theorem without_new {L : List Int} {t : Int} (h : t ∉ L) : without L t = L := by
  unfold without
  exact List.filter_eq_self.2 (fun x hx => by
    have : x ≠ t := fun e => h (e ▸ hx)
    simpa using this)

theorem firstN_new (j : Nat) : ((10 + j : Nat) : Int) ∉ firstN j := by
  unfold firstN
  intro h
  obtain ⟨i, hi, he⟩ := List.mem_map.1 h
  have := List.mem_range.1 hi
  omega

theorem AddP.step {j b : Nat} {th : Int → Option Th} {ln : Nat → List Int} (h : AddP j th ln) :
    AddP (j + 1) (upd (upd th ((10 + j : Nat) : Int) (some ⟨b, 3, 4, 0, false⟩)) ((10 + j : Nat) : Int) (some ⟨b, 3, 4, 5, true⟩)) (upd ln 28 (without (ln 28) ((10 + j : Nat) : Int) ++ [((10 + j : Nat) : Int)])) where
  line := by
    rw [upd_self, h.line, without_new (firstN_new j)]
    unfold firstN
    rw [List.range_succ, List.map_append]
    rfl
  others := fun i hi => by rw [upd_ne _ _ _ _ hi]; exact h.others i hi
  old := fun i hi => by
    by_cases e : i = j
    · subst e
      exact ⟨_, upd_self _ _ _, rfl, rfl, rfl⟩
    · rw [upd_ne _ _ _ _ (by omega), upd_ne _ _ _ _ (by omega)]
      exact h.old i (by omega)
  fresh := fun i hi => by
    rw [upd_ne _ _ _ _ (by omega), upd_ne _ _ _ _ (by omega)]
    exact h.fresh i (by omega)

/-- After i ticks: q threads have had their five, the first one r of them. -/
structure TickQ (k q r : Nat) (th : Int → Option Th) (ln : Nat → List Int) : Prop where
  r5 : r ≤ 5
  line : ln 28 = rotN k q
  others : ∀ i, i ≠ 28 → ln i = []
  ents : ∀ j, j < k → ∃ e, th ((10 + (q + j) % k : Nat) : Int) = some e ∧ e.dom = 3 ∧ e.prio = 4 ∧ e.left = if j = 0 then 5 - r else 5

def TickP (k i : Nat) (th : Int → Option Th) (ln : Nat → List Int) : Prop := ∃ q r, i = 5 * q + r ∧ TickQ k q r th ln

theorem AddP.ticks {k : Nat} {th : Int → Option Th} {ln : Nat → List Int} (h : AddP k th ln) : TickP k 0 th ln := by
  refine ⟨0, 0, rfl, by omega, ?_, h.others, fun j hj => ?_⟩
  · rw [h.line]
    unfold firstN rotN
    exact List.map_congr_left (fun j hj => by
      have := List.mem_range.1 hj
      rw [Nat.zero_add, Nat.mod_eq_of_lt this])
  · rw [Nat.zero_add, Nat.mod_eq_of_lt hj]
    obtain ⟨e, a, b, c, d⟩ := h.old j hj
    exact ⟨e, a, b, c, by rw [d]; split <;> rfl⟩

def rotT (k q : Nat) : List Int := (List.range (k - 1)).map (fun j => ((10 + (q + (j + 1)) % k : Nat) : Int))
theorem rotN_cons (k q : Nat) (hk : 0 < k) : rotN k q = ((10 + q % k : Nat) : Int) :: rotT k q := by
  obtain ⟨m, rfl⟩ : ∃ m, k = m + 1 := ⟨k - 1, by omega⟩
  unfold rotN rotT
  rw [List.range_succ_eq_map, List.map_cons, List.map_map]
  rfl
theorem rotN_snoc (k q : Nat) (hk : 0 < k) : rotN k (q + 1) = rotT k q ++ [((10 + q % k : Nat) : Int)] := by
  obtain ⟨m, rfl⟩ : ∃ m, k = m + 1 := ⟨k - 1, by omega⟩
  unfold rotN rotT
  rw [List.range_succ, List.map_append, List.map_singleton, Nat.add_sub_cancel]
  congr 1
  · exact List.map_congr_left (fun j _ => by rw [show q + 1 + j = q + (j + 1) by omega])
  · rw [show q + 1 + m = q + (m + 1) by omega, Nat.add_mod_right]

theorem mod_ne {k q a b : Nat} (hab : a < b) (hb : b < k) : (q + a) % k ≠ (q + b) % k := fun h => by
  have h2 := Nat.sub_mod_eq_zero_of_mod_eq h.symm
  rw [show q + b - (q + a) = b - a by omega, Nat.mod_eq_of_lt (by omega)] at h2
  omega
theorem mod_inj {k q a b : Nat} (ha : a < k) (hb : b < k) (h : (q + a) % k = (q + b) % k) : a = b := by
  rcases Nat.lt_trichotomy a b with h1 | h1 | h1
  · exact absurd h (mod_ne h1 hb)
  · exact h1
  · exact absurd h.symm (mod_ne h1 ha)

theorem mem_rotN {k q : Nat} {t : Int} (h : t ∈ rotN k q) : ∃ j, j < k ∧ t = ((10 + (q + j) % k : Nat) : Int) := by
  obtain ⟨j, hj, e⟩ := List.mem_map.1 h
  exact ⟨j, List.mem_range.1 hj, e.symm⟩
theorem mem_rotT {k q : Nat} {t : Int} (h : t ∈ rotT k q) : ∃ j, 0 < j ∧ j < k ∧ t = ((10 + (q + j) % k : Nat) : Int) := by
  obtain ⟨j, hj, e⟩ := List.mem_map.1 h
  have := List.mem_range.1 hj
  exact ⟨j + 1, by omega, by omega, e.symm⟩
theorem rotN_nodup (k q : Nat) : (rotN k q).Nodup := by
  unfold rotN
  refine List.pairwise_map.2 ((List.nodup_range (n := k)).imp_of_mem ?_)
  intro a b ha hb hab e
  have ha := List.mem_range.1 ha
  have hb := List.mem_range.1 hb
  exact hab (mod_inj (q := q) ha hb (by omega))
theorem head_notin (k q : Nat) (hk : 0 < k) : ((10 + q % k : Nat) : Int) ∉ rotT k q := by
  have := rotN_nodup k q
  rw [rotN_cons k q hk] at this
  exact (List.nodup_cons.1 this).1

theorem TickQ.wf {k q r : Nat} {th : Int → Option Th} {ln : Nat → List Int} (h : TickQ k q r th ln) (hk : 0 < k) (hk9 : k ≤ 9) : WF th ln := by
  intro i hi
  by_cases e : i = 28
  · subst e
    rw [h.line]
    refine ⟨by unfold rotN; simp; omega, rotN_nodup k q, fun t ht => ?_, fun t ht e he => ?_⟩
    · obtain ⟨j, hj, rfl⟩ := mem_rotN ht
      obtain ⟨e, a, b, c, d⟩ := h.ents j hj
      exact ⟨e, a, by omega, by omega, by omega, by rw [d]; split <;> omega⟩
    · rw [rotN_cons k q hk, List.tail_cons] at ht
      obtain ⟨j, hj0, hj, rfl⟩ := mem_rotT ht
      obtain ⟨e', a, b, c, d⟩ := h.ents j hj
      rw [a] at he
      obtain rfl := Option.some.inj he
      rw [d, if_neg (by omega)]
  · rw [h.others i e]
    exact ⟨by simp, List.nodup_nil, fun t ht => by simp at ht, fun t ht => by simp at ht⟩

theorem TickQ.step {k q r : Nat} {th th' : Int → Option Th} {ln ln' : Nat → List Int} {t : Int} (h : TickQ k q r th ln) (hk : 0 < k) (hn : NextRes 3 th ln t th' ln') :
    t = ((10 + (5 * q + r) / 5 % k : Nat) : Int) ∧ TickP k (5 * q + r + 1) th' ln' := by
  have hr5 := h.r5
  obtain ⟨e0, a0, b0, c0, d0⟩ := h.ents 0 hk
  rw [if_pos rfl] at d0
  rw [Nat.add_zero] at a0
  have hl := h.line
  rw [rotN_cons k q hk] at hl
  have hp4 : ∀ p t0 r0, ln (3 * 8 + p) = t0 :: r0 → p = 4 := fun p t0 r0 hp => by
    by_cases e : p = 4
    · exact e
    · rw [h.others (3 * 8 + p) (by omega)] at hp
      cases hp
  cases hn with
  | nobody hz =>
    have := hz 4 (by omega)
    rw [show 3 * 8 + 4 = 28 by rfl, hl] at this
    cases this
  | first p hp hq _ r0 hl0 e he hz =>
    obtain rfl := hp4 p _ _ hl0
    rw [show 3 * 8 + 4 = 28 by rfl, hl] at hl0
    obtain ⟨rfl, rfl⟩ := List.cons.inj hl0
    rw [a0] at he
    obtain rfl := Option.some.inj he
    have hr : r < 5 := by omega
    refine ⟨by rw [show (5 * q + r) / 5 = q by omega], q, r + 1, by omega, by omega, h.line, h.others, fun j hj => ?_⟩
    unfold tick
    by_cases e : j = 0
    · subst e
      rw [Nat.add_zero, upd_self, a0]
      refine ⟨_, rfl, b0, c0, ?_⟩
      rw [if_pos rfl]
      show e0.left - 1 = _
      omega
    · have hne : (q + 0) % k ≠ (q + j) % k := mod_ne (by omega) hj
      rw [Nat.add_zero] at hne
      rw [upd_ne _ _ _ _ (by omega)]
      obtain ⟨e', a, b, c, d⟩ := h.ents j hj
      exact ⟨e', a, b, c, by rw [d, if_neg e, if_neg e]⟩
  | spent p hp hq t0 r0 hl0 e he hz _ r' hr' =>
    obtain rfl := hp4 p _ _ hl0
    rw [show 3 * 8 + 4 = 28 by rfl, hl] at hl0
    obtain ⟨rfl, rfl⟩ := List.cons.inj hl0
    rw [a0] at he
    obtain rfl := Option.some.inj he
    have hr : r = 5 := by omega
    subst hr
    have hw : without (((10 + q % k : Nat) : Int) :: rotT k q) ((10 + q % k : Nat) : Int) = rotT k q := by
      have := without_new (head_notin k q hk)
      unfold without at this ⊢
      rw [List.filter_cons, if_neg (by simp), this]
    rw [hw, ← rotN_snoc k q hk, rotN_cons k (q + 1) hk] at hr'
    obtain ⟨rfl, rfl⟩ := List.cons.inj hr'
    refine ⟨by rw [show (5 * q + 5) / 5 = q + 1 by omega], q + 1, 1, by omega, by omega, ?_, fun i hi => ?_, fun j hj => ?_⟩
    · rw [show 3 * 8 + 4 = 28 by rfl, upd_self, rotN_cons k (q + 1) hk]
    · rw [show 3 * 8 + 4 = 28 by rfl, upd_ne _ _ _ _ hi]
      exact h.others i hi
    · have key : ∃ e', upd th ((10 + q % k : Nat) : Int) (some { e0 with left := 5, ready := true }) ((10 + (q + 1 + j) % k : Nat) : Int) = some e' ∧ e'.dom = 3 ∧ e'.prio = 4 ∧ e'.left = 5 := by
        by_cases e : j + 1 = k
        · have : (q + 1 + j) % k = q % k := by rw [show q + 1 + j = q + k by omega, Nat.add_mod_right]
          rw [this, upd_self]
          exact ⟨_, rfl, b0, c0, rfl⟩
        · have hne : (q + 0) % k ≠ (q + (j + 1)) % k := mod_ne (by omega) (by omega)
          rw [Nat.add_zero] at hne
          rw [show q + 1 + j = q + (j + 1) by omega, upd_ne _ _ _ _ (by omega)]
          obtain ⟨e', a, b, c, d⟩ := h.ents (j + 1) (by omega)
          exact ⟨e', a, b, c, by rw [d, if_neg (by omega)]⟩
      obtain ⟨e', a, b, c, d⟩ := key
      unfold tick
      by_cases e : j = 0
      · subst e
        rw [Nat.add_zero] at a ⊢
        rw [upd_self, a]
        refine ⟨_, rfl, b, c, ?_⟩
        rw [if_pos rfl]
        show e'.left - 1 = _
        omega
      · have hne : (q + 1 + 0) % k ≠ (q + 1 + j) % k := mod_ne (by omega) hj
        rw [Nat.add_zero] at hne
        rw [upd_ne _ _ _ _ (by omega)]
        exact ⟨e', a, b, c, by rw [d, if_neg e]⟩
end Go.Proofs.Ytceihchkedjgbaa
