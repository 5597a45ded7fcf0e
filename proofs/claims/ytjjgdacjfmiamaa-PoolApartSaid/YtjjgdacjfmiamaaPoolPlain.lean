/- Plain laws for the pool: what objects share of memory. No program in sight. -/
import Derived.Lib.Hide
namespace Go.Proofs.Ytjjgdacjfmiamaa

/-- An untyped: its number, its first page, its pages as a power of two, how many have been given out; the block in which it lies. -/
structure Reg where
  key : Nat
  base : Nat
  ord : Nat
  mark : Nat
  blk : Nat
  born : Nat

structure RegOk (r : Reg) : Prop where
  key : r.key = r.ord * 256 + r.base
  ord : r.ord ≤ 5
  al : r.base % 2 ^ r.ord = 0
  top : r.base + 2 ^ r.ord ≤ 64
  mark : r.mark ≤ 2 ^ r.ord

/-- An object: its kind, its number. -/
abbrev Ob := Nat × Nat
/-- Its first page and how many. -/
def obBase (o : Ob) : Nat := if o.1 = 1 then o.2 % 256 else o.2
def obLen (o : Ob) : Nat := if o.1 = 1 then 2 ^ (o.2 / 256) else 1

/-- An object that is there: K: the kinds of the pages. -/
def ObOk (K : Nat → Nat) (E : List Reg) (o : Ob) : Prop := (o.1 = 1 ∧ ∃ r ∈ E, o.2 = r.key) ∨ (2 ≤ o.1 ∧ o.1 ≤ 8 ∧ o.2 < 64 ∧ K o.2 = o.1)

theorem pow5 {p : Nat} (h : p ≤ 5) : 2 ^ p = 1 ∧ p = 0 ∨ 2 ^ p = 2 ∧ p = 1 ∨ 2 ^ p = 4 ∧ p = 2 ∨ 2 ^ p = 8 ∧ p = 3 ∨ 2 ^ p = 16 ∧ p = 4 ∨ 2 ^ p = 32 ∧ p = 5 := by
  rcases (show p = 0 ∨ p = 1 ∨ p = 2 ∨ p = 3 ∨ p = 4 ∨ p = 5 by omega) with rfl | rfl | rfl | rfl | rfl | rfl <;> simp

theorem RegOk.base_lt {r : Reg} (h : RegOk r) : r.base < 64 := by
  have := h.top
  have := Nat.two_pow_pos r.ord
  omega
theorem RegOk.key_mod {r : Reg} (h : RegOk r) : r.key % 256 = r.base := by
  have := h.key
  have := h.base_lt
  omega
theorem RegOk.key_div {r : Reg} (h : RegOk r) : r.key / 256 = r.ord := by
  have := h.key
  have := h.base_lt
  omega

/-- Two untypeds that share a page: the one lies in the other. -/
theorem dyadic {a p b q : Nat} (hp : p ≤ 5) (hq : q ≤ 5) (ha : a % 2 ^ p = 0) (hb : b % 2 ^ q = 0) (h1 : a < b + 2 ^ q) (h2 : b < a + 2 ^ p) :
    (p = q ∧ a = b) ∨ (q < p ∧ 2 ^ q < 2 ^ p ∧ a ≤ b ∧ b + 2 ^ q ≤ a + 2 ^ p) ∨ (p < q ∧ 2 ^ p < 2 ^ q ∧ b ≤ a ∧ a + 2 ^ p ≤ b + 2 ^ q) := by
  rcases pow5 hp with ⟨e1, e2⟩ | ⟨e1, e2⟩ | ⟨e1, e2⟩ | ⟨e1, e2⟩ | ⟨e1, e2⟩ | ⟨e1, e2⟩ <;>
  rcases pow5 hq with ⟨f1, f2⟩ | ⟨f1, f2⟩ | ⟨f1, f2⟩ | ⟨f1, f2⟩ | ⟨f1, f2⟩ | ⟨f1, f2⟩ <;>
  (rw [e1] at ha h2 ⊢; rw [f1] at hb h1 ⊢; omega)

/-- Two objects that are there share no page, or the one is an untyped and the other lies in it. -/
theorem obs_apart {K : Nat → Nat} {E : List Reg} (hE : ∀ r ∈ E, RegOk r) {x y : Ob} (hx : ObOk K E x) (hy : ObOk K E y) (hne : x ≠ y) :
    obBase y + obLen y ≤ obBase x ∨ obBase x + obLen x ≤ obBase y ∨
    (x.1 = 1 ∧ obBase x ≤ obBase y ∧ obBase y + obLen y ≤ obBase x + obLen x ∧ (obLen y < obLen x ∨ y.1 ≠ 1)) ∨
    (y.1 = 1 ∧ obBase y ≤ obBase x ∧ obBase x + obLen x ≤ obBase y + obLen y ∧ (obLen x < obLen y ∨ x.1 ≠ 1)) := by
  obtain ⟨x1, x2⟩ := x
  obtain ⟨y1, y2⟩ := y
  unfold obBase obLen
  rcases hx with ⟨hx1, r, hr, hxr⟩ | ⟨hx1, hx2, hx3, hx4⟩ <;> rcases hy with ⟨hy1, s, hs, hys⟩ | ⟨hy1, hy2, hy3, hy4⟩
  · simp only at hx1 hxr hy1 hys
    subst hx1 hxr hy1 hys
    have h1 := hE r hr
    have h2 := hE s hs
    simp only [if_true, h1.key_mod, h1.key_div, h2.key_mod, h2.key_div]
    by_cases c1 : s.base + 2 ^ s.ord ≤ r.base
    · exact .inl c1
    by_cases c2 : r.base + 2 ^ r.ord ≤ s.base
    · exact .inr (.inl c2)
    rcases dyadic h1.ord h2.ord h1.al h2.al (by omega) (by omega) with ⟨e1, e2⟩ | ⟨_, e1, e2, e3⟩ | ⟨_, e1, e2, e3⟩
    · exact absurd (by rw [h1.key, h2.key, e1, e2]) hne
    · exact .inr (.inr (.inl ⟨trivial, e2, e3, .inl e1⟩))
    · exact .inr (.inr (.inr ⟨trivial, e2, e3, .inl e1⟩))
  · simp only at hx1 hxr hy1 hy2 hy3 hy4
    subst hx1 hxr
    have h1 := hE r hr
    have hy : y1 ≠ 1 := by omega
    simp only [if_true, h1.key_mod, h1.key_div, if_neg hy]
    by_cases c1 : y2 + 1 ≤ r.base
    · exact .inl c1
    by_cases c2 : r.base + 2 ^ r.ord ≤ y2
    · exact .inr (.inl c2)
    exact .inr (.inr (.inl ⟨trivial, by omega, by omega, .inr hy⟩))
  · simp only at hx1 hx2 hx3 hx4 hy1 hys
    subst hy1 hys
    have h1 := hE s hs
    have hx : x1 ≠ 1 := by omega
    simp only [if_true, h1.key_mod, h1.key_div, if_neg hx]
    by_cases c1 : x2 + 1 ≤ s.base
    · exact .inr (.inl c1)
    by_cases c2 : s.base + 2 ^ s.ord ≤ x2
    · exact .inl c2
    exact .inr (.inr (.inr ⟨trivial, by omega, by omega, .inr hx⟩))
  · simp only at hx1 hx2 hx3 hx4 hy1 hy2 hy3 hy4
    have hx : x1 ≠ 1 := by omega
    have hy : y1 ≠ 1 := by omega
    simp only [if_neg hx, if_neg hy]
    by_cases e : x2 = y2
    · subst e
      exact absurd (by rw [← hx4, ← hy4]) hne
    · omega
end Go.Proofs.Ytjjgdacjfmiamaa
