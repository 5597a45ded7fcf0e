/- The law PoolApart: what its walk keeps. -/
import Derived.Test.YtjjgdacjfmiamaaPoolFin
import Derived.Test.YtjjgdacjfmiamaaPick
namespace Go.Proofs.Ytjjgdacjfmiamaa
open Go.RowKit Go.Lib

/-- The pool of the law's own, and the first untyped's name in its box. -/
structure LI (w wr : World) (K : Nat → Nat) (E : List Reg) : Prop where
  rep : PRep wr w.heap.size (w.heap.size + 2) w.heap.size (w.heap.size + 1) K E
  box : Blk wr (w.heap.size + 3) 28 #[.int .i64 1, .int .i64 1312]
  below : Below w.heap.size w wr

/-- A block of objects that is none of the pages' is none of the Pool's. -/
theorem PRep.not_own_ob {w : World} {base pb mb gb : Nat} {K : Nat → Nat} {E : List Reg} (h : PRep w base pb mb gb K E) {g : Nat} {cs : Array Value} (hb : Blk w g 28 cs) (hg : g ≠ gb) : ¬ Own pb mb gb E g := by
  rintro (rfl | rfl | rfl | ⟨r, hr, rfl⟩)
  · exact hb.ne_ h.pool (by decide) rfl
  · obtain ⟨c, hm, _⟩ := h.map
    exact hm.ne_blk hb rfl
  · exact hg rfl
  · exact hb.ne_ (h.reg r hr) (by decide) rfl

theorem LI.step {w wr w' : World} {K K' : Nat → Nat} {E E' : List Reg} (h : LI w wr K E) (k : PStep wr w' w.heap.size (w.heap.size + 2) w.heap.size (w.heap.size + 1) E K' E') : LI w w' K' E' :=
  ⟨k.rep, h.box.upd k.upd (h.rep.not_own_ob h.box (by omega)), (Upd.of_below h.below (fun _ => False) |>.trans (k.upd.mono (G := fun i => w.heap.size ≤ i) (fun i _ hi => h.rep.low i hi)) (fun i hi hg => by omega)).below (fun _ _ h => h)⟩
theorem LI.same {w wr w' : World} {K : Nat → Nat} {E : List Reg} (h : LI w wr K E) (hu : Upd (fun _ => False) wr w') : LI w w' K E := h.step (h.rep.same hu)

/-- How it begins. -/
theorem LI.start {w w' : World} {rb : Nat} {cs : Array Value} (hcs : cs = pageCells (fun _ => 0)) : ∀ w4, w4 = (((w.alloc (.map #[] 0)).alloc (.cells cs 28)).alloc (.cells #[.map (some w.heap.size), .slice (some ⟨w.heap.size + 1, 0, none⟩) 64 64] 46)).alloc (.cells #[.int .i64 1, .int .i64 1312] 28) →
    w4.heap.size ≤ rb → Blk w' rb 50 (regCells (reg0 rb 0)) → MapAt w' w.heap.size [entR (reg0 rb 0)] (0 + 1) → Upd (fun i => i = w.heap.size) w4 w' → LI w w' (fun _ => 0) [reg0 rb 0] := by
  intro w4 hw4 hrb hreg hm hu
  have z1 : (w.alloc (.map #[] 0)).heap.size = w.heap.size + 1 := by rw [World.alloc]; simp only [Array.size_push]
  have z2 : ((w.alloc (.map #[] 0)).alloc (.cells cs 28)).heap.size = w.heap.size + 2 := by rw [World.alloc]; simp only [Array.size_push]; rw [z1]
  have z3 : (((w.alloc (.map #[] 0)).alloc (.cells cs 28)).alloc (.cells #[.map (some w.heap.size), .slice (some ⟨w.heap.size + 1, 0, none⟩) 64 64] 46)).heap.size = w.heap.size + 3 := by rw [World.alloc]; simp only [Array.size_push]; rw [z2]
  have z4 : w4.heap.size = w.heap.size + 4 := by rw [hw4, World.alloc]; simp only [Array.size_push]; rw [z3]
  have bg : Blk w4 (w.heap.size + 1) 28 (pageCells (fun _ => 0)) := by
    have h := ((Blk.new (w.alloc (.map #[] 0)) 28 cs).alloc (.cells #[.map (some w.heap.size), .slice (some ⟨w.heap.size + 1, 0, none⟩) 64 64] 46)).alloc (.cells #[.int .i64 1, .int .i64 1312] 28)
    rw [z1, ← hw4, hcs] at h
    exact h
  have bp : Blk w4 (w.heap.size + 2) 46 #[.map (some w.heap.size), .slice (some ⟨w.heap.size + 1, 0, none⟩) 64 64] := by
    have h := (Blk.new ((w.alloc (.map #[] 0)).alloc (.cells cs 28)) 46 #[.map (some w.heap.size), .slice (some ⟨w.heap.size + 1, 0, none⟩) 64 64]).alloc (.cells #[.int .i64 1, .int .i64 1312] 28)
    rw [z2, ← hw4] at h
    exact h
  have bb : Blk w4 (w.heap.size + 3) 28 #[.int .i64 1, .int .i64 1312] := by
    have h := Blk.new (((w.alloc (.map #[] 0)).alloc (.cells cs 28)).alloc (.cells #[.map (some w.heap.size), .slice (some ⟨w.heap.size + 1, 0, none⟩) 64 64] 46)) 28 #[.int .i64 1, .int .i64 1312]
    rw [z3, ← hw4] at h
    exact h
  have hu4 : Upd (fun _ => False) w w4 := by rw [hw4]; exact ((((Upd.refl _ _).alloc _).alloc _).alloc _).alloc _
  refine ⟨⟨bp.upd hu (by omega), bg.upd hu (by omega), ⟨0 + 1, hm, fun r hr => ?_⟩, by simp, by simp, by simp, fun r hr => ?_, fun r hr => ?_, fun i _ => .inl rfl, ⟨_, .head _, rfl⟩, ?_⟩, bb.upd hu (by omega), ?_⟩
  · rw [List.mem_singleton.1 hr]; exact Nat.zero_lt_one
  · rw [List.mem_singleton.1 hr]; exact hreg
  · rw [List.mem_singleton.1 hr]
    exact ⟨by show 1312 = 5 * 256 + 32; omega, by show 5 ≤ 5; omega, by show 32 % 2 ^ 5 = 0; decide, by show 32 + 2 ^ 5 ≤ 64; decide, Nat.zero_le _⟩
  · rintro i (rfl | rfl | rfl | ⟨r, hr, rfl⟩)
    · omega
    · omega
    · omega
    · rw [List.mem_singleton.1 hr]
      show w.heap.size ≤ rb
      omega
  · exact ((hu4.mono (G := fun i => i = w.heap.size) (fun _ _ h => h.elim)).trans hu (fun _ _ h => h)).below' (Nat.le_refl _) (fun i hi e => by omega)

theorem start_call (w : World) {cs : Array Value} (hcs : cs = pageCells (fun _ => 0)) : ∀ w4, w4 = (((w.alloc (.map #[] 0)).alloc (.cells cs 28)).alloc (.cells #[.map (some w.heap.size), .slice (some ⟨w.heap.size + 1, 0, none⟩) 64 64] 46)).alloc (.cells #[.int .i64 1, .int .i64 1312] 28) →
    Calls Try.prog 5 #[.pointer (some ⟨w.heap.size + 2, 0, none⟩), .agg #[.int .i64 1, .int .i64 1312]] w4 fun e w' => e = .returned (.int .i64 0) ∧ ∃ rb, LI w w' (fun _ => 0) [reg0 rb 0] := by
  intro w4 hw4
  have z1 : (w.alloc (.map #[] 0)).heap.size = w.heap.size + 1 := by rw [World.alloc]; simp only [Array.size_push]
  have z2 : ((w.alloc (.map #[] 0)).alloc (.cells cs 28)).heap.size = w.heap.size + 2 := by rw [World.alloc]; simp only [Array.size_push]; rw [z1]
  have bg : Blk w4 (w.heap.size + 1) 28 (pageCells (fun _ => 0)) := by
    have h := ((Blk.new (w.alloc (.map #[] 0)) 28 cs).alloc (.cells #[.map (some w.heap.size), .slice (some ⟨w.heap.size + 1, 0, none⟩) 64 64] 46)).alloc (.cells #[.int .i64 1, .int .i64 1312] 28)
    rw [z1, ← hw4, hcs] at h
    exact h
  have bp : Blk w4 (w.heap.size + 2) 46 #[.map (some w.heap.size), .slice (some ⟨w.heap.size + 1, 0, none⟩) 64 64] := by
    have h := (Blk.new ((w.alloc (.map #[] 0)).alloc (.cells cs 28)) 46 #[.map (some w.heap.size), .slice (some ⟨w.heap.size + 1, 0, none⟩) 64 64]).alloc (.cells #[.int .i64 1, .int .i64 1312] 28)
    rw [z2, ← hw4] at h
    exact h
  have bm : MapAt w4 w.heap.size [] 0 := by
    have h0 : MapAt (w.alloc (.map #[] 0)) w.heap.size [] 0 := heap_alloc_new w _
    rw [hw4]
    exact h0.upd ((((Upd.refl (fun _ => False) _).alloc (.cells cs 28)).alloc (.cells #[.map (some w.heap.size), .slice (some ⟨w.heap.size + 1, 0, none⟩) 64 64] 46)).alloc (.cells #[.int .i64 1, .int .i64 1312] 28)) (fun h => h)
  refine (add_ok w4 (w.heap.size + 2) w.heap.size (w.heap.size + 1) 0 bp bg bm).mono ?_
  rintro e w' ⟨rfl, rb, h1, h2, h3, h4⟩
  exact ⟨rfl, rb, LI.start hcs w4 hw4 h1 h2 h3 h4⟩

theorem ob_bounds {w : World} {base pb mb gb : Nat} {K : Nat → Nat} {E : List Reg} (h : PRep w base pb mb gb K E) {x : Ob} (hx : ObOk K E x) : (x.1 = 1 → x.2 / 256 ≤ 8) ∧ x.2 ≤ 100000 := by
  rcases hx with ⟨h1, r, hr, h2⟩ | ⟨h1, h2, h3, _⟩
  · have a := (h.ok r hr).key_div
    have b := (h.ok r hr).ord
    have c := (h.ok r hr).key
    have d := (h.ok r hr).base_lt
    rw [h2]
    exact ⟨fun _ => by omega, by omega⟩
  · exact ⟨fun e => by omega, by omega⟩
theorem objs_apart {w : World} {base pb mb gb : Nat} {K : Nat → Nat} {E : List Reg} (h : PRep w base pb mb gb K E) {L : List Ob} (hn : L.Nodup) (hm : ∀ x, x ∈ L ↔ ObOk K E x) : ∀ i k (hi : i < L.length) (hk : k < i), AP L[i] (L[k]'(by omega)) := by
  intro i k hi hk
  have hne : L[i] ≠ L[k]'(by omega) := fun e => by
    have := List.pairwise_iff_getElem.1 hn k i (by omega) hi hk
    exact this e.symm
  exact obs_apart h.ok ((hm _).1 (List.getElem_mem hi)) ((hm _).1 (List.getElem_mem _)) hne
/-- An untyped's first page and how many. -/
theorem reg_extent {w : World} {base pb mb gb : Nat} {K : Nat → Nat} {E : List Reg} (h : PRep w base pb mb gb K E) {r : Reg} (hr : r ∈ E) : obBase (1, r.key) = r.base ∧ obLen (1, r.key) = 2 ^ r.ord := by
  unfold obBase obLen
  simp only [if_true, (h.ok r hr).key_mod, (h.ok r hr).key_div, and_self]

/-- Give, its two results told. -/
def GiveB (w w' : World) (base pb mb gb : Nat) (E : List Reg) (r : Reg) (kd cnt : Nat) (v : Value) (k : Int) : Prop :=
  (v = .slice none 0 0 ∧ k = 14 ∧ Upd (fun _ => False) w w') ∨
  (k = 0 ∧ ∃ K' E' L, IntV w' w.heap.size v L ∧ L.length = cnt ∧ PStep w w' base pb mb gb E K' E' ∧ E'.length ≤ E.length + cnt ∧
    ∀ t (h : t < L.length), ∃ x : Nat, L[t] = (x : Int) ∧ x ≤ 100000 ∧ (kd = 1 → x / 256 ≤ 8) ∧ r.base ≤ obBase (kd, x) ∧ obBase (kd, x) + obLen (kd, x) ≤ r.base + 2 ^ r.ord ∧ (kd = 1 → obLen (kd, x) < 2 ^ r.ord))
theorem GiveA.told {w w' : World} {base pb mb gb : Nat} {E : List Reg} {r : Reg} {kd cnt : Nat} {e : Ending} (h : GiveA w w' base pb mb gb E r kd cnt e) : ∃ v k, e = .returned (.tuple #[v, .int .i64 k]) ∧ GiveB w w' base pb mb gb E r kd cnt v k := by
  rcases h with ⟨he, hu⟩ | ⟨v, K', E', L, he, h⟩
  · exact ⟨_, _, he, .inl ⟨rfl, rfl, hu⟩⟩
  · exact ⟨_, _, he, .inr ⟨rfl, K', E', L, h⟩⟩

theorem tdiv8 {c : Int} (hc : -9223372036854775808 ≤ c ∧ c ≤ 9223372036854775807) : -9223372036854775808 ≤ c.tdiv 8 ∧ c.tdiv 8 ≤ 9223372036854775807 := by
  rcases Int.le_total 0 c with h | h
  · rw [Int.tdiv_eq_ediv_of_nonneg h]
    omega
  · have e : c.tdiv 8 = -((-c) / 8) := by
      rw [← Int.tdiv_eq_ediv_of_nonneg (by omega), Int.neg_tdiv, Int.neg_neg]
    rw [e]
    omega

/-- The text of the k-th loop that stands side by side with the others. -/
def firstLoop : Code → Option Code
  | .loop c => some c
  | .seq a b => match firstLoop a with
    | some c => some c
    | none => firstLoop b
  | .block _ c => firstLoop c
  | .scope c => firstLoop c
  | .cond _ a b => match firstLoop a with
    | some c => some c
    | none => firstLoop b
  | _ => none
noncomputable def body : Code := ((Try.f3.body.bind firstLoop).getD .skip)
end Go.Proofs.Ytjjgdacjfmiamaa
