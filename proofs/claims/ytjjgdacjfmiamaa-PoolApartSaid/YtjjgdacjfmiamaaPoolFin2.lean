/- PoolApart: what the walk's last part leans on. -/
import Derived.Test.YtjjgdacjfmiamaaPoolInv
namespace Go.Proofs.Ytjjgdacjfmiamaa
open Go.RowKit Go.Lib

/-- The first untyped gives all of itself again. -/
theorem final_give {w : World} {base pb mb gb : Nat} {K : Nat → Nat} {E : List Reg} (h : PRep w base pb mb gb K E) (hp : Ph 100 K E) :
    Calls Try.prog 10 #[.pointer (some ⟨pb, 0, none⟩), .int .i64 1312, .int .i64 2, .int .i64 0, .int .i64 32] w fun e w' =>
      ∃ g cap, e = .returned (.tuple #[.slice (some ⟨g, 0, none⟩) 32 cap, .int .i64 0]) ∧ w'.cell? ⟨g, 0, none⟩ = some (.int .i64 32) ∧ w'.cell? ⟨g, 31, none⟩ = some (.int .i64 63) ∧ Upd (fun i => base ≤ i) w w' := by
  obtain ⟨r, hr, hk⟩ := h.whole
  have hcl := hp.clear h hr hk
  have hord : r.ord = 5 := by have := (h.ok r hr).key_div; rw [hk] at this; omega
  have hbase : r.base = 32 := by have := (h.ok r hr).key_mod; rw [hk] at this; omega
  have hm0 : mk0 K E r = 0 := by unfold mk0; rw [if_pos hcl]
  have hc := give_page2 h hr 2 32 (by omega) (by omega) (by omega) (by omega) hcl (by omega)
  rw [hk] at hc
  refine hc.mono ?_
  rintro e w' (⟨h1, _, _⟩ | ⟨_, v, K', E', rfl, hv, hs, _⟩)
  · rw [hm0, hord] at h1
    exact absurd h1 (by decide)
  · have hl : (nums 0 (r.base + mk0 K E r) 1 32).length = 32 := nums_len _ _ _ _
    obtain ⟨g, cap, rfl, _, _, hcell⟩ := hv.cell (by rw [hl]; omega)
    have c0 := hcell 0 (by rw [hl]; omega)
    have c1 := hcell 31 (by rw [hl]; omega)
    rw [nums_get, hm0, hbase] at c0 c1
    rw [hl]
    exact ⟨g, cap, rfl, c0, c1, hs.upd.mono (fun i _ hi => h.low i hi)⟩

/-- The last rounds' inner state: the objects' slice lies outside the Pool. -/
structure FI (w wr : World) (S q : Nat) (L : List Ob) (n t : Nat) (K : Nat → Nat) (E : List Reg) : Prop where
  li : LI w wr K E
  qi : QI L n t K E
  obs : ObsAt wr q L
  own : ∀ i, Own (w.heap.size + 2) w.heap.size (w.heap.size + 1) E i → i < S
  len : E.length ≤ 5000

section
variable {w wr : World} {S q n t : Nat} {L : List Ob} {K : Nat → Nat} {E : List Reg}

theorem FI.step {w' : World} {K' : Nat → Nat} {E' : List Reg} (h : FI w wr S q L n t K E) (hS : S ≤ q) (k : PStep wr w' w.heap.size (w.heap.size + 2) w.heap.size (w.heap.size + 1) E K' E') (hq : QI L n (t + 1) K' E') (hl : E'.length ≤ E.length) (hE : ∀ x ∈ E', x ∈ E) : FI w w' S q L n (t + 1) K' E' :=
  ⟨h.li.step k, hq, h.obs.upd k.upd (fun ho => by have := h.own q ho; omega), fun i hi => h.own i (by
    rcases hi with h1 | h1 | h1 | ⟨x, hx, rfl⟩
    · exact .inl h1
    · exact .inr (.inl h1)
    · exact .inr (.inr (.inl h1))
    · exact .inr (.inr (.inr ⟨x, hE x hx, rfl⟩))), Nat.le_trans hl h.len⟩
theorem FI.same {w' : World} (h : FI w wr S q L n t K E) (hu : Upd (fun _ => False) wr w') (hq : QI L n (t + 1) K E) : FI w w' S q L n (t + 1) K E :=
  ⟨h.li.same hu, hq, h.obs.upd hu (fun h => h), h.own, h.len⟩

/-- Remove, whatever stands there: the state behind. -/
theorem FI.remove (h : FI w wr S q L n t K E) (hS : S ≤ q) {x : Ob} (hx : L[t]? = some x) (hk : x.1 = 1 ∨ 2 ≤ x.1 ∧ x.2 < 64) (hw : x ≠ (1, 1312)) :
    Calls Try.prog 9 #[.pointer (some ⟨w.heap.size + 2, 0, none⟩), .agg #[.int .i64 x.1, .int .i64 x.2]] wr fun e w' => ∃ k K' E', e = .returned (.int .i64 k) ∧ FI w w' S q L n (t + 1) K' E' := by
  have hkd : ∀ j, j < 64 → K j = 0 ∨ 2 ≤ K j := fun j hj => (h.li.rep.kinds j hj).imp id (fun a => a.1)
  obtain ⟨x1, x2⟩ := x
  simp only at hk ⊢
  rcases hk with rfl | ⟨h1, h2⟩
  · have hne : x2 ≠ 1312 := fun e => hw (by rw [e])
    by_cases hr : ∃ r ∈ E, r.key = x2
    · obtain ⟨r, hr, rfl⟩ := hr
      cases hcl : clearB K E r with
      | true =>
        refine (remove_reg h.li.rep hr hcl hne).mono ?_
        rintro e w' ⟨rfl, E', hs, hm, hl⟩
        exact ⟨0, K, E', rfl, h.step hS hs (h.qi.reg hx hkd hm) hl (fun x hx => ((hm x).1 hx).1)⟩
      | false =>
        refine (remove_full h.li.rep hr hcl).mono ?_
        rintro e w' ⟨rfl, hu⟩
        refine ⟨16, K, E, rfl, h.same hu (h.qi.skip hx (fun j hj hK e => ?_) (fun s hs hk hn he e => ?_))⟩
        · have := congrArg Prod.fst e
          have := hkd j hj
          simp only at *
          omega
        · have e1 : r.key = s.key := congrArg Prod.snd e
          have e2 := mem_of_key h.li.rep hr hs e1
          subst e2
          rw [h.qi.clear h.li.rep hr hn he] at hcl
          cases hcl
    · have hno : ∀ r ∈ E, r.key ≠ x2 := fun r hr' hk => hr ⟨r, hr', hk⟩
      refine (remove_none h.li.rep x2 hno).mono ?_
      rintro e w' ⟨rfl, hu⟩
      refine ⟨6, K, E, rfl, h.same hu (h.qi.skip hx (fun j hj hK e => ?_) (fun s hs hk hn he e => hno s hs (congrArg Prod.snd e).symm))⟩
      have := congrArg Prod.fst e
      have := hkd j hj
      simp only at *
      omega
  · by_cases hK : K x2 = x1
    · refine (remove_page h.li.rep x1 x2 h1 h2 hK).mono ?_
      rintro e w' ⟨rfl, hs⟩
      exact ⟨0, _, E, rfl, h.step hS hs (h.qi.page hx h1 hK) (Nat.le_refl _) (fun x hx => hx)⟩
    · refine (remove_gone h.li.rep x1 x2 h1 h2 hK).mono ?_
      rintro e w' ⟨rfl, hu⟩
      refine ⟨6, K, E, rfl, h.same hu (h.qi.skip hx (fun j hj hKj e => ?_) (fun s hs hk hn he e => ?_))⟩
      · have e1 := congrArg Prod.fst e
        have e2 := congrArg Prod.snd e
        simp only at e1 e2
        subst e2
        exact hK e1.symm
      · have := congrArg Prod.fst e
        simp only at this
        omega
end
end Go.Proofs.Ytjjgdacjfmiamaa
