/- sched.New: a new Sched of turns. -/
import Derived.Test.YtceihchkedjgbaaNew2
namespace Go.Proofs.Ytceihchkedjgbaa
open Go.RowKit Go.Lib

theorem zcells_line (i : Nat) (h : i < 64) : zcells[4 + i]? = some (.slice none 0 0) := by
  unfold zcells
  rw [Array.getElem?_append_right (by simp)]
  simp only [List.size_toArray, List.length_cons, List.length_nil, List.getElem?_toArray, List.getElem?_replicate]
  rw [if_pos (by omega)]

/-- The cells of a new Sched. -/
def newCells (n b mb c k0 : Nat) : Array Value := ((zcells.setIfInBounds 0 (.slice (some ⟨b, 0, none⟩) n c)).setIfInBounds 2 (.int .i64 k0)).setIfInBounds 3 (.map (some mb))

theorem SRep.new {w W : World} {n : Nat} {cs : Array Value} {b mb c k0 : Nat} (h : Made w n cs b mb W) :
    ∃ cur, (∀ i, i < n * 2 → cur[i]? = cs[i]?) ∧ SRep (W.alloc (.cells (newCells n b mb c k0) 88)) w.heap.size W.heap.size (fun i => w.heap.size ≤ i ∧ i < W.heap.size + 1) n cur 0 k0 (fun _ => none) (fun _ => []) ∧
      Upd (fun _ => False) w (W.alloc (.cells (newCells n b mb c k0) 88)) := by
  obtain ⟨cur, a1, a2, a3, a4, a5, a6⟩ := h
  have hsz := zcells_size
  have hB := Blk.new W 88 (newCells n b mb c k0)
  refine ⟨cur, a2, ⟨b, mb, c, newCells n b mb c k0, fun _ => .slice none 0 0, ?_⟩, a6.alloc _⟩
  refine ⟨hB, by unfold newCells; simpa using hsz, ?_, ?_, ?_, ?_, fun i hi => ?_, a1.alloc _, ?_, fun k e he => (by cases he), fun k k' e e' he => (by cases he), fun i hi => LineV.nil _ _, fun i j _ _ _ b hb => (by cases hb), ⟨a6.size, by omega⟩, ⟨a3, Nat.lt_succ_of_lt a1.lt⟩, ⟨a5, Nat.lt_succ_of_lt a4.lt⟩, fun k e he => (by cases he), fun i b _ hb => (by cases hb), fun i hi => ⟨hi.1, by rw [World.alloc]; simp only [Array.size_push]; exact hi.2⟩⟩
  all_goals try unfold newCells
  · rw [set_other _ _ _ _ (by decide), set_other _ _ _ _ (by decide), set_self _ _ _ (by omega)]
  · rw [set_other _ _ _ _ (by decide), set_other _ _ _ _ (by decide), set_other _ _ _ _ (by decide)]; rfl
  · rw [set_other _ _ _ _ (by decide), set_self _ _ _ (by simp only [Array.size_setIfInBounds]; omega)]
  · rw [set_self _ _ _ (by simp only [Array.size_setIfInBounds]; omega)]
  · rw [set_other _ _ _ _ (by omega), set_other _ _ _ _ (by omega), set_other _ _ _ _ (by omega), zcells_line i hi]
  · exact a4.upd ((Upd.refl (fun _ => False) W).alloc _) (fun h => h)

/-- A new Sched of turns that lie in a block. -/
theorem new_ok (tq n cap : Nat) (cs : Array Value) (d k : Nat → Nat) (w : World) (hn : 0 < n ∧ n ≤ 16) (hB : Blk w tq 39 cs) (hs : cs.size = n * 2)
    (hc : ∀ i, i < n → cs[i * 2]? = some (.int .i64 (d i)) ∧ cs[i * 2 + 1]? = some (.int .i64 (k i)) ∧ d i < 8 ∧ 0 < k i ∧ k i ≤ 1000) :
    Calls Try.prog 11 #[.slice (some ⟨tq, 0, none⟩) n cap] w fun e w' => ∃ sb F cur, e = .returned (.tuple #[.pointer (some ⟨sb, 0, none⟩), .int .i64 0]) ∧ (∀ i, i < n * 2 → cur[i]? = cs[i]?) ∧
      SRep w' w.heap.size sb F n cur 0 (k 0) (fun _ => none) (fun _ => []) ∧ Upd (fun _ => False) w w' ∧ ∀ i, F i → w.heap.size ≤ i ∧ i < w'.heap.size := by
  have hone : ∀ u, u ∈ cs → u.oneCell' = true := by
    intro u hu
    obtain ⟨j, hj, rfl⟩ := Array.mem_iff_getElem.1 hu
    obtain ⟨a1, a2, _⟩ := hc (j / 2) (by omega)
    rcases Nat.mod_two_eq_zero_or_one j with h | h
    · have : cs[j]? = some (.int .i64 (d (j / 2))) := by rw [← a1]; congr 1; omega
      rw [Array.getElem?_eq_getElem hj] at this
      rw [Option.some.inj this]; rfl
    · have : cs[j]? = some (.int .i64 (k (j / 2))) := by rw [← a2]; congr 1; omega
      rw [Array.getElem?_eq_getElem hj] at this
      rw [Option.some.inj this]; rfl
  refine (new_core zcells zero_sched zcells_size (by decide) tq n cap cs d k w hn hB hc (fun w1 hu => ?_)).mono ?_
  · have hB1 := hB.upd hu (fun h => h)
    refine (clone_ok tq n cap cs w1 hB1 hs hn hone).mono ?_
    rintro e w' ⟨b, c, cur, rfl, h1, h2, h3, h4⟩
    exact ⟨b, c, rfl, ((hB1.upd h4 (fun h => h)).cell 1).trans (hc 0 hn.1).2.1, cur, h1, h2, h3, h4⟩
  · rintro e w' ⟨sb, b, c, mb, W, rfl, rfl, hM, rfl⟩
    obtain ⟨cur, h1, h2, h3⟩ := SRep.new (c := c) (k0 := k 0) hM
    exact ⟨_, _, cur, rfl, h1, h2, h3, fun i hi => ⟨hi.1, by rw [World.alloc]; simp only [Array.size_push]; exact hi.2⟩⟩
end Go.Proofs.Ytceihchkedjgbaa
