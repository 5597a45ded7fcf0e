/- Plain laws for the pool's last rounds: when all that can go has gone, all has gone but the first untyped; and Give, all its ways in one. -/
import Derived.Test.YtjjgdacjfmiamaaPoolW13
namespace Go.Proofs.Ytjjgdacjfmiamaa
open Go.RowKit Go.Lib

/-- What n rounds have left. -/
def Ph (n : Nat) (K : Nat → Nat) (E : List Reg) : Prop := (1 ≤ n → ∀ j, j < 64 → K j = 0) ∧ ∀ r ∈ E, r.key ≠ 1312 → n ≤ r.ord + 1
/-- .. and what the first i of the next round's objects. -/
def QI (L : List Ob) (n i : Nat) (K : Nat → Nat) (E : List Reg) : Prop :=
  (∀ j, j < 64 → K j ≠ 0 → ∃ k, i ≤ k ∧ L[k]? = some (K j, j)) ∧ (1 ≤ n → ∀ j, j < 64 → K j = 0) ∧ ∀ r ∈ E, r.key ≠ 1312 → n ≤ r.ord + 1 ∧ (1 ≤ n → r.ord + 1 = n → ∃ k, i ≤ k ∧ L[k]? = some (1, r.key))

section
variable {w : World} {base pb mb gb : Nat} {K : Nat → Nat} {E : List Reg} {L : List Ob} {n i : Nat}

theorem QI.start (h : PRep w base pb mb gb K E) (hL : ∀ x, x ∈ L ↔ ObOk K E x) (hp : Ph n K E) : QI L n 0 K E := by
  refine ⟨fun j hj hK => ?_, hp.1, fun r hr hk => ⟨hp.2 r hr hk, fun _ _ => ?_⟩⟩
  · obtain ⟨a, b⟩ := (h.kinds j hj).resolve_left hK
    obtain ⟨k, hk, e⟩ := List.mem_iff_getElem.1 ((hL (K j, j)).2 (.inr ⟨a, b, hj, rfl⟩))
    exact ⟨k, Nat.zero_le _, by rw [List.getElem?_eq_getElem hk, e]⟩
  · obtain ⟨k, hk', e⟩ := List.mem_iff_getElem.1 ((hL (1, r.key)).2 (.inl ⟨rfl, r, hr, rfl⟩))
    exact ⟨k, Nat.zero_le _, by rw [List.getElem?_eq_getElem hk', e]⟩

theorem QI.done (h : QI L n L.length K E) : Ph (n + 1) K E := by
  refine ⟨fun _ j hj => ?_, fun r hr hk => ?_⟩
  · cases hK : decide (K j = 0) with
    | true => exact of_decide_eq_true hK
    | false =>
      obtain ⟨k, hk, e⟩ := h.1 j hj (of_decide_eq_false hK)
      rw [List.getElem?_eq_none hk] at e
      cases e
  · obtain ⟨h1, h2⟩ := h.2.2 r hr hk
    rcases Nat.eq_zero_or_pos n with h0 | h0
    · omega
    · by_cases he : r.ord + 1 = n
      · obtain ⟨k, hk', e⟩ := h2 h0 he
        rw [List.getElem?_eq_none hk'] at e
        cases e
      · omega

/-- An object stays: it is the first untyped, or it can't go, or it is gone. -/
theorem QI.skip (h : QI L n i K E) {x : Ob} (hx : L[i]? = some x) (h1 : ∀ j, j < 64 → K j ≠ 0 → x ≠ (K j, j)) (h2 : ∀ r ∈ E, r.key ≠ 1312 → 1 ≤ n → r.ord + 1 = n → x ≠ (1, r.key)) : QI L n (i + 1) K E := by
  have up : ∀ {y : Ob} {k : Nat}, i ≤ k → L[k]? = some y → x ≠ y → i + 1 ≤ k := fun hk hy hne => by
    rcases Nat.lt_or_ge i _ with hlt | hge
    · exact hlt
    · have e := Nat.le_antisymm hge hk
      rw [e, hx] at hy
      exact absurd (Option.some.inj hy) hne
  refine ⟨fun j hj hK => ?_, h.2.1, fun r hr hk => ⟨(h.2.2 r hr hk).1, fun hn he => ?_⟩⟩
  · obtain ⟨k, hk, e⟩ := h.1 j hj hK
    exact ⟨k, up hk e (h1 j hj hK), e⟩
  · obtain ⟨k, hk', e⟩ := (h.2.2 r hr hk).2 hn he
    exact ⟨k, up hk' e (h2 r hr hk hn he), e⟩

theorem QI.page (h : QI L n i K E) {kd nm : Nat} (hx : L[i]? = some (kd, nm)) (hk2 : 2 ≤ kd) (hK : K nm = kd) : QI L n (i + 1) (setK K nm 0) E := by
  have up : ∀ {y : Ob} {k : Nat}, i ≤ k → L[k]? = some y → (kd, nm) ≠ y → i + 1 ≤ k := fun hk hy hne => by
    rcases Nat.lt_or_ge i _ with hlt | hge
    · exact hlt
    · have e := Nat.le_antisymm hge hk
      rw [e, hx] at hy
      exact absurd (Option.some.inj hy) hne
  refine ⟨fun j hj hKj => ?_, fun hn j hj => ?_, fun r hr hk => ⟨(h.2.2 r hr hk).1, fun hn he => ?_⟩⟩
  · unfold setK at hKj ⊢
    by_cases e : j = nm
    · rw [if_pos e] at hKj; exact absurd rfl hKj
    · rw [if_neg e] at hKj ⊢
      obtain ⟨k, hk, ek⟩ := h.1 j hj hKj
      exact ⟨k, up hk ek (fun q => e (congrArg Prod.snd q).symm), ek⟩
  · unfold setK
    split
    · rfl
    · exact h.2.1 hn j hj
  · obtain ⟨k, hk', e⟩ := (h.2.2 r hr hk).2 hn he
    exact ⟨k, up hk' e (fun q => by have := congrArg Prod.fst q; simp only at this; omega), e⟩

theorem QI.reg (h : QI L n i K E) {r : Reg} {E' : List Reg} (hx : L[i]? = some (1, r.key)) (hkd : ∀ j, j < 64 → K j = 0 ∨ 2 ≤ K j) (hE : ∀ x, x ∈ E' ↔ (x ∈ E ∧ x.key ≠ r.key)) : QI L n (i + 1) K E' := by
  have up : ∀ {y : Ob} {k : Nat}, i ≤ k → L[k]? = some y → (1, r.key) ≠ y → i + 1 ≤ k := fun hk hy hne => by
    rcases Nat.lt_or_ge i _ with hlt | hge
    · exact hlt
    · have e := Nat.le_antisymm hge hk
      rw [e, hx] at hy
      exact absurd (Option.some.inj hy) hne
  refine ⟨fun j hj hKj => ?_, h.2.1, fun s hs hk => ?_⟩
  · obtain ⟨k, hk, ek⟩ := h.1 j hj hKj
    exact ⟨k, up hk ek (fun q => by have := congrArg Prod.fst q; have := hkd j hj; simp only at *; omega), ek⟩
  · obtain ⟨hs1, hs2⟩ := (hE s).1 hs
    refine ⟨(h.2.2 s hs1 hk).1, fun hn he => ?_⟩
    obtain ⟨k, hk', e⟩ := (h.2.2 s hs1 hk).2 hn he
    exact ⟨k, up hk' e (fun q => hs2 (congrArg Prod.snd q).symm), e⟩

/-- Of the least order, nothing lies in it. -/
theorem QI.clear (h : QI L n i K E) (hp : PRep w base pb mb gb K E) {r : Reg} (hr : r ∈ E) (hn : 1 ≤ n) (he : r.ord + 1 = n) : clearB K E r = true := by
  rw [clearB_iff]
  refine ⟨fun j hj => h.2.1 hn _ (by have := (hp.ok r hr).top; omega), fun s hs => ?_⟩
  have : ¬ s.ord < r.ord := by
    by_cases hk : s.key = 1312
    · have h1 := (hp.ok s hs).key_div
      have h2 := (hp.ok r hr).ord
      rw [hk] at h1
      omega
    · have := (h.2.2 s hs hk).1
      omega
  unfold inR
  rw [decide_eq_false this]
  simp

/-- After more rounds than there are orders all has gone but the first untyped: nothing lies in that. -/
theorem Ph.clear (h : Ph 100 K E) (hp : PRep w base pb mb gb K E) {r : Reg} (hr : r ∈ E) (hk : r.key = 1312) : clearB K E r = true := by
  rw [clearB_iff]
  refine ⟨fun j hj => h.1 (by omega) _ (by have := (hp.ok r hr).top; omega), fun s hs => ?_⟩
  have hs' : s.key = 1312 := by
    by_cases e : s.key = 1312
    · exact e
    · have h1 := h.2 s hs e
      have h2 := (hp.ok s hs).ord
      omega
  rw [mem_of_key hp hs hr (by omega)]
  unfold inR
  simp

/-- Give, all its ways. -/
def GiveA (w w' : World) (base pb mb gb : Nat) (E : List Reg) (r : Reg) (kd cnt : Nat) (e : Ending) : Prop :=
  (e = .returned (.tuple #[.slice none 0 0, .int .i64 14]) ∧ Upd (fun _ => False) w w') ∨
  ∃ v K' E' L, e = .returned (.tuple #[v, .int .i64 0]) ∧ IntV w' w.heap.size v L ∧ L.length = cnt ∧ PStep w w' base pb mb gb E K' E' ∧ E'.length ≤ E.length + cnt ∧
    ∀ t (h : t < L.length), ∃ x : Nat, L[t] = (x : Int) ∧ x ≤ 100000 ∧ (kd = 1 → x / 256 ≤ 8) ∧ r.base ≤ obBase (kd, x) ∧ obBase (kd, x) + obLen (kd, x) ≤ r.base + 2 ^ r.ord ∧ (kd = 1 → obLen (kd, x) < 2 ^ r.ord)

theorem nums_get (hi a n c t : Nat) (h : t < (nums hi a n c).length) : (nums hi a n c)[t] = ((hi + a + t * n : Nat) : Int) := by
  unfold nums
  simp

theorem GiveU.all {w' : World} {r : Reg} {o cnt : Nat} {e : Ending} (hok : RegOk r) (ho : o ≤ 3) (h : GiveU w w' base pb mb gb K E r o (2 ^ o) cnt e) : GiveA w w' base pb mb gb E r 1 cnt e := by
  rcases h with ⟨_, he, hu⟩ | ⟨h1, h2, v, K', E', he, hv, hs, hl⟩
  · exact .inl ⟨he, hu⟩
  · refine .inr ⟨v, K', E', _, he, hv, nums_len _ _ _ _, hs, hl, fun t ht => ⟨_, nums_get _ _ _ _ _ ht, ?_⟩⟩
    have ht' : t < cnt := by rw [nums_len] at ht; exact ht
    have htop := hok.top
    have hpos := Nat.two_pow_pos o
    have hmul : t * 2 ^ o + 2 ^ o ≤ cnt * 2 ^ o := by
      have := Nat.mul_le_mul_right (2 ^ o) (show t + 1 ≤ cnt from ht')
      rw [Nat.add_mul, Nat.one_mul] at this
      exact this
    have hlt : 2 ^ o < 2 ^ r.ord := Nat.pow_lt_pow_right (by omega) h1
    generalize t * 2 ^ o = tn at hmul ⊢
    generalize cnt * 2 ^ o = cn at hmul h2
    generalize up (mk0 K E r) (2 ^ o) = m1 at h2 ⊢
    have e1 : (o * 256 + (r.base + m1) + tn) % 256 = r.base + m1 + tn := by omega
    have e2 : (o * 256 + (r.base + m1) + tn) / 256 = o := by omega
    unfold obBase obLen
    simp only [if_true, e1, e2]
    refine ⟨by omega, fun _ => by omega, by omega, by omega, fun _ => hlt⟩

theorem give_all (h : PRep w base pb mb gb K E) {r : Reg} (hr : r ∈ E) (kd o cnt : Nat) (hk1 : 1 ≤ kd) (hk8 : kd ≤ 8) (ho : o ≤ 3) (h0 : kd ≠ 1 → o = 0) (hc : 1 ≤ cnt) (hc2 : cnt ≤ 32) :
    Calls Try.prog 10 #[.pointer (some ⟨pb, 0, none⟩), .int .i64 r.key, .int .i64 kd, .int .i64 o, .int .i64 cnt] w fun e w' => GiveA w w' base pb mb gb E r kd cnt e := by
  have hok := h.ok r hr
  by_cases hk : kd = 1
  · subst hk
    rcases Nat.lt_or_ge o r.ord with hlt | hge
    · have hall : ∀ {e w'}, GiveU w w' base pb mb gb K E r o (2 ^ o) cnt e → GiveA w w' base pb mb gb E r 1 cnt e := fun hg => hg.all hok ho
      rcases (show o = 0 ∨ o = 1 ∨ o = 2 ∨ o = 3 by omega) with rfl | rfl | rfl | rfl <;> cases hcl : clearB K E r
      · exact (give_unt0 h hr cnt hc hc2 hcl hlt).mono fun _ _ hg => hall hg
      · exact (give_unt0c h hr cnt hc hc2 hcl hlt).mono fun _ _ hg => hall hg
      · exact (give_unt1 h hr cnt hc hc2 hcl hlt).mono fun _ _ hg => hall hg
      · exact (give_unt1c h hr cnt hc hc2 hcl hlt).mono fun _ _ hg => hall hg
      · exact (give_unt2 h hr cnt hc hc2 hcl hlt).mono fun _ _ hg => hall hg
      · exact (give_unt2c h hr cnt hc hc2 hcl hlt).mono fun _ _ hg => hall hg
      · exact (give_unt3 h hr cnt hc hc2 hcl hlt).mono fun _ _ hg => hall hg
      · exact (give_unt3c h hr cnt hc hc2 hcl hlt).mono fun _ _ hg => hall hg
    · exact (give_small h hr cnt o ho hc hc2 hge).mono fun _ _ ⟨he, hu⟩ => .inl ⟨he, hu⟩
  · obtain rfl := h0 hk
    have hfin : ∀ {e w'}, ((2 ^ r.ord < mk0 K E r + cnt ∧ e = .returned (.tuple #[.slice none 0 0, .int .i64 14]) ∧ Upd (fun _ => False) w w') ∨
      (mk0 K E r + cnt ≤ 2 ^ r.ord ∧ ∃ v K' E', e = .returned (.tuple #[v, .int .i64 0]) ∧ IntV w' w.heap.size v (nums 0 (r.base + mk0 K E r) 1 cnt) ∧ PStep w w' base pb mb gb E K' E' ∧ E'.length ≤ E.length + cnt)) → GiveA w w' base pb mb gb E r kd cnt e := by
      intro e w' hg
      rcases hg with ⟨_, he, hu⟩ | ⟨h2, v, K', E', he, hv, hs, hl⟩
      · exact .inl ⟨he, hu⟩
      · refine .inr ⟨v, K', E', _, he, hv, nums_len _ _ _ _, hs, hl, fun t ht => ⟨_, nums_get _ _ _ _ _ ht, ?_⟩⟩
        have ht' : t < cnt := by rw [nums_len] at ht; exact ht
        have htop := hok.top
        unfold obBase obLen
        simp only [if_neg hk]
        refine ⟨by omega, fun e => absurd e hk, by omega, by omega, fun e => absurd e hk⟩
    rcases Nat.eq_zero_or_pos r.ord with hz | hz <;> cases hcl : clearB K E r
    · exact (give_page3 h hr kd cnt (by omega) hk8 hc hc2 hcl hz).mono fun _ _ hg => hfin hg
    · exact (give_page4 h hr kd cnt (by omega) hk8 hc hc2 hcl hz).mono fun _ _ hg => hfin hg
    · exact (give_page1 h hr kd cnt (by omega) hk8 hc hc2 hcl hz).mono fun _ _ hg => hfin hg
    · exact (give_page2 h hr kd cnt (by omega) hk8 hc hc2 hcl hz).mono fun _ _ hg => hfin hg
end
end Go.Proofs.Ytjjgdacjfmiamaa
