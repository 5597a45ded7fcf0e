/- Plain laws of a walk: where one may store one may load, and comes to the same place; a walk ends at the same byte of a page. -/
import Derived.Test.YtiknigdjmbdfgaaDoorWalk
namespace Go.Proofs.YtiknigdjmbdfgaaDoor
open Go.RowKit Go.Lib

/-- What mmu.Walk answers, by the use (0, 1, 2). -/
def walkF (f : Nat → UInt8) (N va u : Nat) (root : Int) : Int × Int :=
  if root < 0 ∨ (N : Int) ≤ root then (0, accC u) else lvl1 f N va (pageC u) (accC u) (needC u) root.toNat

theorem pageC_ne (u : Nat) : pageC u ≠ -1 := by unfold pageC; split <;> (try split) <;> omega
theorem accC_ne (u : Nat) : accC u ≠ -1 := by unfold accC; split <;> (try split) <;> omega
theorem needC_lt (u : Nat) : needC u < 4294967296 := by unfold needC; split <;> (try split) <;> omega

/-- Two answers that come to a place come to the same one; where the first does and its needs are more, so does the second. -/
def Agree (more : Prop) (r s : Int × Int) : Prop := (r.2 = -1 → s.2 = -1 → r.1 = s.1) ∧ (more → r.2 = -1 → s.2 = -1 ∧ r.1 = s.1)

theorem leaf_agree (N va x : Nat) (p1 a1 p2 a2 : Int) (n1 n2 : Nat) (big : Bool) (hp1 : p1 ≠ -1) (ha1 : a1 ≠ -1) (hp2 : p2 ≠ -1) :
    Agree (∀ y, y &&& n1 = n1 → y &&& n2 = n2) (leafF N va p1 a1 n1 x big) (leafF N va p2 a2 n2 x big) := by
  unfold Agree leafF
  by_cases h10 : x &&& 10 = 0
  · rw [if_pos (.inr h10), if_pos (.inr h10)]
    exact ⟨fun h => absurd h hp1, fun _ h => absurd h hp1⟩
  · by_cases hb : big = true ∧ (x / 1024) &&& 1023 ≠ 0
    · by_cases h1 : x &&& n1 = n1
      · rw [if_neg (c := x &&& n1 ≠ n1 ∨ _) (fun h => by rcases h with h | h; exact h h1; exact h10 h), if_pos hb]
        exact ⟨fun h => absurd h hp1, fun _ h => absurd h hp1⟩
      · rw [if_pos (c := x &&& n1 ≠ n1 ∨ _) (.inl h1)]
        exact ⟨fun h => absurd h hp1, fun _ h => absurd h hp1⟩
    · by_cases hpa : N * 4096 ≤ x / 1024 * 4096 + (va &&& (if big = true then 4194303 else 4095))
      · by_cases h1 : x &&& n1 = n1
        · rw [if_neg (c := x &&& n1 ≠ n1 ∨ _) (fun h => by rcases h with h | h; exact h h1; exact h10 h), if_neg hb, if_pos hpa]
          exact ⟨fun h => absurd h ha1, fun _ h => absurd h ha1⟩
        · rw [if_pos (c := x &&& n1 ≠ n1 ∨ _) (.inl h1)]
          exact ⟨fun h => absurd h hp1, fun _ h => absurd h hp1⟩
      · by_cases h1 : x &&& n1 = n1
        · rw [if_neg (c := x &&& n1 ≠ n1 ∨ _) (fun h => by rcases h with h | h; exact h h1; exact h10 h), if_neg hb, if_neg hpa]
          by_cases h2 : x &&& n2 = n2
          · rw [if_neg (c := x &&& n2 ≠ n2 ∨ _) (fun h => by rcases h with h | h; exact h h2; exact h10 h), if_neg hb, if_neg hpa]
            exact ⟨fun _ _ => rfl, fun _ _ => ⟨rfl, rfl⟩⟩
          · rw [if_pos (c := x &&& n2 ≠ n2 ∨ _) (.inl h2)]
            exact ⟨fun _ h => absurd h hp2, fun hm _ => absurd (hm x h1) h2⟩
        · rw [if_pos (c := x &&& n1 ≠ n1 ∨ _) (.inl h1)]
          exact ⟨fun h => absurd h hp1, fun _ h => absurd h hp1⟩

theorem lvl0_agree (f : Nat → UInt8) (N va t : Nat) (p1 a1 p2 a2 : Int) (n1 n2 : Nat) (hp1 : p1 ≠ -1) (ha1 : a1 ≠ -1) (hp2 : p2 ≠ -1) :
    Agree (∀ y, y &&& n1 = n1 → y &&& n2 = n2) (lvl0 f N va p1 a1 n1 t) (lvl0 f N va p2 a2 n2 t) := by
  unfold lvl0
  split
  · split
    · exact ⟨fun h => absurd h hp1, fun _ h => absurd h hp1⟩
    · exact leaf_agree _ _ _ _ _ _ _ _ _ _ hp1 ha1 hp2
  · exact ⟨fun h => absurd h ha1, fun _ h => absurd h ha1⟩

theorem lvl1_agree (f : Nat → UInt8) (N va t : Nat) (p1 a1 p2 a2 : Int) (n1 n2 : Nat) (hp1 : p1 ≠ -1) (ha1 : a1 ≠ -1) (hp2 : p2 ≠ -1) :
    Agree (∀ y, y &&& n1 = n1 → y &&& n2 = n2) (lvl1 f N va p1 a1 n1 t) (lvl1 f N va p2 a2 n2 t) := by
  unfold lvl1
  split
  · split
    · exact ⟨fun h => absurd h hp1, fun _ h => absurd h hp1⟩
    · split
      · exact lvl0_agree _ _ _ _ _ _ _ _ _ _ hp1 ha1 hp2
      · exact leaf_agree _ _ _ _ _ _ _ _ _ _ hp1 ha1 hp2
  · exact ⟨fun h => absurd h ha1, fun _ h => absurd h ha1⟩

theorem walk_agree (f : Nat → UInt8) (N va u v : Nat) (root : Int) : Agree (∀ y, y &&& needC u = needC u → y &&& needC v = needC v) (walkF f N va u root) (walkF f N va v root) := by
  unfold walkF
  split
  · exact ⟨fun h => absurd h (accC_ne u), fun _ h => absurd h (accC_ne u)⟩
  · exact lvl1_agree _ _ _ _ _ _ _ _ _ _ (pageC_ne u) (accC_ne u) (pageC_ne v)

theorem need_store_load : ∀ y, y &&& needC 2 = needC 2 → y &&& needC 1 = needC 1 := by
  intro y h
  have h' : y &&& 215 = 215 := h
  show y &&& 83 = 83
  calc y &&& 83 = y &&& (215 &&& 83) := rfl
    _ = (y &&& 215) &&& 83 := (Nat.and_assoc _ _ _).symm
    _ = 83 := by rw [h']; rfl

/-- Does an answer end at the same byte of a page that there is, or nowhere? -/
def Landed (N va : Nat) (r : Int × Int) : Prop := (r.2 ≠ -1 → r.1 = 0) ∧ (r.2 = -1 → 0 ≤ r.1 ∧ r.1 < (N : Int) * 4096 ∧ r.1 % 4096 = (va : Int) % 4096)

theorem leaf_landed (N va x : Nat) (pc ac : Int) (nd : Nat) (big : Bool) (hp : pc ≠ -1) (ha : ac ≠ -1) : Landed N va (leafF N va pc ac nd x big) := by
  unfold leafF
  by_cases h1 : x &&& nd ≠ nd ∨ x &&& 10 = 0
  · rw [if_pos h1]
    exact ⟨fun _ => rfl, fun h => absurd h hp⟩
  · rw [if_neg h1]
    by_cases h2 : big = true ∧ (x / 1024) &&& 1023 ≠ 0
    · rw [if_pos h2]
      exact ⟨fun _ => rfl, fun h => absurd h hp⟩
    · rw [if_neg h2]
      by_cases h3 : N * 4096 ≤ x / 1024 * 4096 + (va &&& (if big = true then 4194303 else 4095))
      · rw [if_pos h3]
        exact ⟨fun _ => rfl, fun h => absurd h ha⟩
      · rw [if_neg h3]
        refine ⟨fun h => absurd rfl h, fun _ => ⟨by omega, by omega, ?_⟩⟩
        cases big with
        | true =>
          have e : va &&& 4194303 = va % 4194304 := Nat.and_two_pow_sub_one_eq_mod va 22
          simp only [if_true] at h3 ⊢
          rw [e]
          omega
        | false =>
          have e : va &&& 4095 = va % 4096 := Nat.and_two_pow_sub_one_eq_mod va 12
          simp only [Bool.false_eq_true, if_false] at h3 ⊢
          rw [e]
          omega

theorem walk_landed (f : Nat → UInt8) (N va u : Nat) (root : Int) : Landed N va (walkF f N va u root) := by
  have z : ∀ c : Int, c ≠ -1 → Landed N va (0, c) := fun c hc => ⟨fun _ => rfl, fun h => absurd h hc⟩
  unfold walkF lvl1 lvl0
  repeat' split
  all_goals first | exact z _ (accC_ne u) | exact z _ (pageC_ne u) | exact leaf_landed _ _ _ _ _ _ _ (pageC_ne u) (accC_ne u)

set_option maxRecDepth 100000 in
set_option maxHeartbeats 400000 in
theorem walk_no (mb pb N va u : Nat) (root : Int) (w : World) (hM : w.cell? ⟨mb, 0, none⟩ = some (.slice (some ⟨pb, 0, none⟩) N N)) (hroot : root < 0 ∨ (N : Int) ≤ root) (pc ac : Int) (nd : Nat)
    (c1 : w.cell? ⟨0, u * 2, none⟩ = some (.int .i64 pc)) (c2 : w.cell? ⟨0, u * 2 + 1, none⟩ = some (.int .i64 ac)) (c3 : w.cell? ⟨1, u, none⟩ = some (.int .u32 nd)) (hu : u < 3) :
    Calls Tryd.prog 8 #[.pointer (some ⟨mb, 0, none⟩), .int .i64 root, .int .u32 va, .int .i64 u] w fun e w' => e = .returned (.tuple #[.int .i64 0, .int .i64 ac]) ∧ ∃ n, w' = w.drewN n := by
  have g1 : (0 : Int) ≤ (u : Int) := by omega
  have g2 : (u : Int) < 3 := by omega
  have g3 : (u : Int) ≤ 2 := by omega
  have d1 : decide ((u : Int) < 0) = false := decide_eq_false (by omega)
  have d2 : decide (2 < (u : Int)) = false := decide_eq_false (by omega)
  by_cases h : root < 0
  · have d3 : decide (root < 0) = true := decide_eq_true h
    clear hroot
    go_enter Tryd.func8, Tryd.ntmps8
    go_wp2_with fail
    go_quiet (fail)
    go_wp2_with fail
    go_ret2
    exact ⟨rfl, _, rfl⟩
  · have hr : (N : Int) ≤ root := by rcases hroot with h' | h'; exact absurd h' h; exact h'
    have d3 : decide (root < 0) = false := decide_eq_false h
    have d4 : decide ((N : Int) ≤ root) = true := decide_eq_true hr
    clear hroot
    go_enter Tryd.func8, Tryd.ntmps8
    go_wp2_with fail
    go_quiet (fail)
    go_wp2_with (go_at_call 18; refine (pages_any mb pb N _ (by assumption)).mono ?_; rintro e w1 ⟨rfl, rfl⟩)
    go_ret2
    exact ⟨rfl, _, rfl⟩

theorem walk_any (mb N va u : Nat) (root : Int) (F : Nat → Prop) (f : Nat → UInt8) (w : World) (hr : MemRep w mb F N f) (hN : N ≤ 256) (hva : va < 4294967296) (ht : Tabs w) (hu : u < 3) :
    Calls Tryd.prog 8 #[.pointer (some ⟨mb, 0, none⟩), .int .i64 root, .int .u32 va, .int .i64 u] w fun e w' => e = .returned (.tuple #[.int .i64 (walkF f N va u root).1, .int .i64 (walkF f N va u root).2]) ∧ ∃ n, w' = w.drewN n := by
  have hM : ∃ pb, w.cell? ⟨mb, 0, none⟩ = some (.slice (some ⟨pb, 0, none⟩) N N) := by
    obtain ⟨pb, ptrs, h1, _⟩ := hr
    exact ⟨pb, by rw [h1.cell]; rfl⟩
  obtain ⟨pb, hM⟩ := hM
  have c1 : w.cell? ⟨0, u * 2, none⟩ = some (.int .i64 (pageC u)) := by
    match u, hu with
    | 0, _ => exact ht.f0
    | 1, _ => exact ht.f2
    | 2, _ => exact ht.f4
  have c2 : w.cell? ⟨0, u * 2 + 1, none⟩ = some (.int .i64 (accC u)) := by
    match u, hu with
    | 0, _ => exact ht.f1
    | 1, _ => exact ht.f3
    | 2, _ => exact ht.f5
  have c3 : w.cell? ⟨1, u, none⟩ = some (.int .u32 (needC u)) := by
    match u, hu with
    | 0, _ => exact ht.n0
    | 1, _ => exact ht.n1
    | 2, _ => exact ht.n2
  by_cases h : root < 0 ∨ (N : Int) ≤ root
  · have e : walkF f N va u root = (0, accC u) := by unfold walkF; rw [if_pos h]
    rw [e]
    exact walk_no mb pb N va u root w hM h _ _ _ c1 c2 c3 hu
  · have e : walkF f N va u root = lvl1 f N va (pageC u) (accC u) (needC u) root.toNat := by unfold walkF; rw [if_neg h]
    obtain ⟨r, rfl⟩ := Int.eq_ofNat_of_zero_le (show 0 ≤ root by omega)
    rw [e, Int.toNat_natCast]
    exact walk_core mb pb N r va u _ _ _ F f w hr hM hN (by omega) hva (needC_lt u) c1 c2 c3 hu _ rfl
end Go.Proofs.YtiknigdjmbdfgaaDoor
