/- Plain laws: what a walk comes to in a memory whose words are a root, a table and entries for twelve pages. -/
import Derived.Test.YtiknigdjmbdfgaaDoorWalkLaws
import Derived.Test.YtiknigdjmbdfgaaDoorVspMap
namespace Go.Proofs.YtiknigdjmbdfgaaDoor
open Go.RowKit Go.Lib

def okR (r : Nat) : Prop := r = 1 ∨ r = 3 ∨ r = 4 ∨ r = 5 ∨ r = 7
/-- The entry of a frame with its rights; rights 0: none. -/
def entN (p r : Nat) : Nat := if r = 0 then 0 else p * 1024 + flagN r
/-- The words: T in the root, the entries in the table. -/
def gOf (T : Nat) (hF hR : Nat → Nat) (k : Nat) : Nat := if k = 1024 then T else if 2048 ≤ k ∧ k < 2060 then entN (hF (k - 2048)) (hR (k - 2048)) else 0
def put (h : Nat → Nat) (v x : Nat) : Nat → Nat := fun j => if j = v then x else h j
/-- Each page has no rights, or rights that go together; its frame is one of twelve. -/
def LInv (hF hR : Nat → Nat) : Prop := ∀ v, v < 12 → (hR v = 0 ∨ okR (hR v)) ∧ hF v < 12
/-- The right that a use wants. -/
def rbit (u : Nat) : Nat := if u = 0 then 4 else if u = 1 then 1 else 2

theorem gOf_root (T : Nat) (hF hR : Nat → Nat) : gOf T hF hR 1024 = T := rfl
theorem gOf_ent (T v : Nat) (hF hR : Nat → Nat) (hv : v < 12) : gOf T hF hR (2048 + v) = entN (hF v) (hR v) := by
  unfold gOf
  rw [if_neg (by omega), if_pos (by omega), show 2048 + v - 2048 = v by omega]

theorem gOf_put (T v p r : Nat) (hF hR : Nat → Nat) (hv : v < 12) : (fun j => if j = 2048 + v then entN p r else gOf T hF hR j) = gOf T (put hF v p) (put hR v r) := by
  funext j
  by_cases h : j = 2048 + v
  · subst h
    rw [gOf_ent T v (put hF v p) (put hR v r) hv]
    show (if 2048 + v = 2048 + v then _ else _) = _
    unfold put
    rw [if_pos rfl, if_pos rfl, if_pos rfl]
  · simp only [if_neg h]
    unfold gOf
    by_cases h1 : j = 1024
    · rw [if_pos h1, if_pos h1]
    · rw [if_neg h1, if_neg h1]
      by_cases h2 : 2048 ≤ j ∧ j < 2060
      · rw [if_pos h2, if_pos h2]
        unfold put
        rw [if_neg (by omega), if_neg (by omega)]
      · rw [if_neg h2, if_neg h2]

theorem gOf_rootPut (T T' : Nat) (hF hR : Nat → Nat) : (fun j => if j = 1024 then T' else gOf T hF hR j) = gOf T' hF hR := by
  funext j
  unfold gOf
  by_cases h : j = 1024
  · rw [if_pos h, if_pos h]
  · rw [if_neg h, if_neg h, if_neg h]

theorem LInv.put {hF hR : Nat → Nat} (h : LInv hF hR) (v p r : Nat) (hr : (r = 0 ∨ okR r) ∧ p < 12) : LInv (put hF v p) (put hR v r) := by
  intro j hj
  unfold Go.Proofs.YtiknigdjmbdfgaaDoor.put
  by_cases e : j = v
  · rw [if_pos e, if_pos e]; exact hr
  · rw [if_neg e, if_neg e]; exact h j hj

def entOk (p r u : Nat) : Bool :=
  !(r == 1 || r == 3 || r == 4 || r == 5 || r == 7) ||
  ((p * 1024 + flagN r) &&& 1 == 1 && (p * 1024 + flagN r) &&& 6 != 4 && ((r &&& rbit u == 0) == ((p * 1024 + flagN r) &&& needC u != needC u || (p * 1024 + flagN r) &&& 10 == 0)))
theorem entOk_all : ∀ p, p < 12 → ∀ r, r < 8 → ∀ u, u < 3 → entOk p r u = true := by decide

theorem ent_facts (p : Nat) (hp : p < 12) (r : Nat) (hr : r < 8) (ho : r = 1 ∨ r = 3 ∨ r = 4 ∨ r = 5 ∨ r = 7) (u : Nat) (hu : u < 3) :
    (p * 1024 + flagN r) &&& 1 = 1 ∧ (p * 1024 + flagN r) &&& 6 ≠ 4 ∧ (r &&& rbit u = 0 → (p * 1024 + flagN r) &&& needC u ≠ needC u ∨ (p * 1024 + flagN r) &&& 10 = 0) ∧
      (r &&& rbit u ≠ 0 → ¬ ((p * 1024 + flagN r) &&& needC u ≠ needC u ∨ (p * 1024 + flagN r) &&& 10 = 0)) := by
  have h := entOk_all p hp r hr u hu
  have h1 : (r == 1 || r == 3 || r == 4 || r == 5 || r == 7) = true := by rcases ho with rfl | rfl | rfl | rfl | rfl <;> rfl
  unfold entOk at h
  rw [h1] at h
  simp only [Bool.not_true, Bool.false_or, Bool.and_eq_true] at h
  obtain ⟨⟨a1, a2⟩, a3⟩ := h
  have e := eq_of_beq a3
  refine ⟨eq_of_beq a1, by simpa using a2, fun hz => ?_, fun hz hc => ?_⟩
  · rw [hz] at e
    simpa using e.symm
  · have hb : (r &&& rbit u == 0) = false := by simpa using hz
    rw [hb] at e
    have e' := e.symm
    rw [Bool.or_eq_false_iff] at e'
    obtain ⟨c1, c2⟩ := e'
    rcases hc with hc | hc
    · exact hc (by simpa using c1)
    · rw [hc] at c2; cases c2

theorem walk_laid (f : Nat → UInt8) (hF hR : Nat → Nat) (hw : ∀ k, k < 12 * 1024 → wordF f (k * 4) = gOf 2049 hF hR k) (hi : LInv hF hR) (v o va u : Nat) (hv : v < 12) (ho : o < 4096) (hva : va = v * 4096 + o) (hu : u < 3) :
    walkF f 12 va u 1 = if hR v &&& rbit u = 0 then (0, pageC u) else (((hF v * 4096 + o : Nat) : Int), -1) := by
  have i1 : (va / 4194304) &&& 1023 = 0 := by rw [show va / 4194304 = 0 by omega]; rfl
  have i0 : (va / 4096) &&& 1023 = v := by
    rw [show va / 4096 = v by omega]
    have e : v &&& 1023 = v % 1024 := Nat.and_two_pow_sub_one_eq_mod v 10
    rw [e]
    omega
  have w1 : wordF f (1 * 4096 + 4 * 0) = 2049 := (hw 1024 (by omega)).trans rfl
  have w0 : wordF f (2 * 4096 + 4 * v) = entN (hF v) (hR v) := by
    have h := hw (2048 + v) (by omega)
    rw [gOf_ent _ _ _ _ hv] at h
    rw [← h]
    congr 1
    omega
  unfold walkF
  rw [if_neg (by omega), show (1 : Int).toNat = 1 from rfl]
  unfold lvl1
  rw [i1, w1, if_pos (inB_mk (by omega) (by omega) (by omega)), if_neg (by decide), if_pos (by decide), show 2049 / 1024 = 2 from rfl]
  unfold lvl0
  rw [i0, w0, if_pos (inB_mk (by omega) (by omega) (by omega))]
  rcases hi v hv with ⟨h0 | hok, hp⟩
  · rw [h0, show entN (hF v) 0 = 0 from rfl, if_pos (.inl rfl), if_pos (by simp)]
  · have hr8 : hR v < 8 := by unfold okR at hok; omega
    have hr0 : hR v ≠ 0 := by unfold okR at hok; omega
    have he : entN (hF v) (hR v) = hF v * 1024 + flagN (hR v) := by unfold entN; rw [if_neg hr0]
    obtain ⟨f1, f2, f3, f4⟩ := ent_facts (hF v) hp (hR v) hr8 hok u hu
    rw [he, if_neg (by rintro (h | h); omega; exact f2 h)]
    unfold leafF
    by_cases hb : hR v &&& rbit u = 0
    · rw [if_pos (f3 hb), if_pos hb]
    · rw [if_neg (f4 hb), if_neg hb]
      have hfl := flagN_lt (hR v)
      have ed : (hF v * 1024 + flagN (hR v)) / 1024 = hF v := by omega
      have eo : va &&& 4095 = o := by
        have e : va &&& 4095 = va % 4096 := Nat.and_two_pow_sub_one_eq_mod va 12
        rw [e]
        omega
      rw [if_neg (by simp), ed]
      simp only [Bool.false_eq_true, if_false]
      rw [eo, if_neg (by omega)]

/-- Where all words are 0, so are all bytes. -/
theorem word_zero (f : Nat → UInt8) (a : Nat) (h : wordF f (a / 4 * 4) = 0) : f a = 0 := by
  unfold wordF at h
  have h0 := (f (a / 4 * 4)).toNat_lt
  have e : ∀ i, (f (a / 4 * 4 + i)).toNat = 0 → f (a / 4 * 4 + i) = 0 := fun i h => UInt8.toNat_inj.1 (by rw [h]; rfl)
  rcases (by omega : a = a / 4 * 4 + 0 ∨ a = a / 4 * 4 + 1 ∨ a = a / 4 * 4 + 2 ∨ a = a / 4 * 4 + 3) with h1 | h1 | h1 | h1
  · rw [h1]; exact e 0 (by rw [Nat.add_zero]; omega)
  · rw [h1]; exact e 1 (by omega)
  · rw [h1]; exact e 2 (by omega)
  · rw [h1]; exact e 3 (by omega)
end Go.Proofs.YtiknigdjmbdfgaaDoor
