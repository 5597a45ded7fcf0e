/- ipc: first, of a Bus. -/
import Derived.Test.YtceihchkedjgbaaBus2
namespace Go.Proofs.Ytceihchkedjgbaa
open Go.RowKit Go.Lib

theorem where_first {x : Wt} {rest : List Wt} (hn : ((x :: rest).map Wt.thr).Nodup) : mset (whereM (x :: rest)) (x.thr : Int) none = whereM rest := by
  have hx : x.thr ∉ rest.map Wt.thr := (List.nodup_cons.1 hn).1
  funext k
  unfold mset whereM
  by_cases hk : k = (x.thr : Int)
  · rw [if_pos hk, if_neg (fun ⟨y, a, b⟩ => hx (List.mem_map.2 ⟨y, a, by omega⟩))]
  · rw [if_neg hk]
    by_cases h : ∃ y, y ∈ rest ∧ (y.thr : Int) = k
    · obtain ⟨y, a, b⟩ := h
      rw [if_pos ⟨y, .tail _ a, b⟩, if_pos ⟨y, a, b⟩]
    · rw [if_neg h, if_neg]
      rintro ⟨y, a, b⟩
      rcases List.mem_cons.1 a with e | a
      · exact hk (by rw [← b, e])
      · exact h ⟨y, a, b⟩

theorem where_erase {L : List Wt} {k : Nat} (hk : k < L.length) (hn : (L.map Wt.thr).Nodup) : mset (whereM L) (L[k].thr : Int) none = whereM (L.eraseIdx k) := by
  have hiff : ∀ y, y ∈ L.eraseIdx k ↔ y ∈ L ∧ y.thr ≠ L[k].thr := by
    intro y
    rw [List.mem_eraseIdx_iff_getElem]
    constructor
    · rintro ⟨i, hi, hik, rfl⟩
      refine ⟨List.getElem_mem _, fun e => hik ?_⟩
      have h1 : (L.map Wt.thr)[i]'(by simpa using hi) = (L.map Wt.thr)[k]'(by simpa using hk) := by simpa using e
      have hp := List.pairwise_iff_getElem.1 hn
      rcases Nat.lt_trichotomy i k with h | h | h
      · exact absurd h1 (hp i k (by simpa using hi) (by simpa using hk) h)
      · exact h
      · exact absurd h1.symm (hp k i (by simpa using hk) (by simpa using hi) h)
    · rintro ⟨a, b⟩
      obtain ⟨i, hi, rfl⟩ := List.mem_iff_getElem.1 a
      exact ⟨i, hi, fun e => b (by subst e; rfl), rfl⟩
  funext j
  unfold mset whereM
  by_cases hj : j = (L[k].thr : Int)
  · rw [if_pos hj, if_neg]
    rintro ⟨y, a, b⟩
    exact ((hiff y).1 a).2 (by omega)
  · rw [if_neg hj]
    by_cases h : ∃ y, y ∈ L ∧ (y.thr : Int) = j
    · obtain ⟨y, a, b⟩ := h
      rw [if_pos ⟨y, a, b⟩, if_pos ⟨y, (hiff y).2 ⟨a, by omega⟩, b⟩]
    · rw [if_neg h, if_neg (fun ⟨y, a, b⟩ => h ⟨y, ((hiff y).1 a).1, b⟩)]

theorem where_snoc {L : List Wt} {x : Wt} : mset (whereM L) (x.thr : Int) (some (.int .i64 5)) = whereM (L ++ [x]) := by
  funext k
  unfold mset whereM
  by_cases hk : k = (x.thr : Int)
  · rw [if_pos hk, if_pos ⟨x, List.mem_append.2 (.inr (List.mem_singleton.2 rfl)), hk.symm⟩]
  · rw [if_neg hk]
    by_cases h : ∃ y, y ∈ L ∧ (y.thr : Int) = k
    · obtain ⟨y, a, b⟩ := h
      rw [if_pos ⟨y, a, b⟩, if_pos ⟨y, List.mem_append.2 (.inl a), b⟩]
    · rw [if_neg h, if_neg]
      rintro ⟨y, a, b⟩
      rcases List.mem_append.1 a with a | a
      · exact h ⟨y, a, b⟩
      · rw [List.mem_singleton.1 a] at b
        exact hk b.symm

section
variable {w : World} {base bb pl pm wm : Nat} {F : Nat → Prop} {v : Value} {L : List Wt} {m : Int → Option Value}

/-- The line is another, and lies where it lay. -/
theorem BRaw.sameLine {w1 : World} {v' : Value} {L' : List Wt} (h : BRaw w base bb pl pm wm F v L m) (hu : Upd (fun b => v.ownBlock = some b) w w1) (hL : LineW w1 base v' L') (hv : v'.ownBlock = v.ownBlock) :
    BRaw (w1.setCell ⟨pl, 1, none⟩ v') base bb pl pm wm F v' L' m ∧ Upd F w (w1.setCell ⟨pl, 1, none⟩ v') := by
  obtain ⟨r, hU⟩ := h.setLine hu hL (fun b hb => .inl (by rw [← hv]; exact hb))
  exact ⟨⟨r.bus, r.place, r.places, r.wh, r.ne, r.line, h.fb, h.fp, h.fm, h.fw, fun b hb => h.fl b (by rw [← hv]; exact hb), fun i hi => ⟨(h.lt i hi).1, Nat.lt_of_lt_of_le (h.lt i hi).2 hU.size⟩⟩, hU⟩

theorem BRaw.toRep {w0 : World} (h : BRaw w base bb pl pm wm F v L (whereM L)) (hn : (L.map Wt.thr).Nodup) (hU : Upd F w0 w) (hb : base ≤ w0.heap.size) : BNext base bb pl F w0 w L := by
  refine ⟨⟨hn, pm, wm, v, h.mono (fun i hi => .inl hi) ?_⟩, hU⟩
  rintro i (hi | ⟨a, b⟩)
  · exact h.lt i hi
  · exact ⟨by omega, b⟩
end

section
variable {w : World} {base bb pl : Nat} {F : Nat → Prop} {L : List Wt}

/-- Who has waited longest waits no more. -/
theorem first_ok {x : Wt} {rest : List Wt} (h : BRep w base bb pl F (x :: rest)) :
    Calls Try.prog 42 #[.pointer (some ⟨bb, 0, none⟩), .pointer (some ⟨pl, 0, none⟩)] w fun e w' => e = .returned x.val ∧ BNext base bb pl F w w' rest := by
  have hbl := h.baseLe
  have hF := h.lowF
  obtain ⟨hn, pm, wm, v, r0⟩ := h
  have hz : (w.alloc (.cells zeroW.toArray 110)).heap.size = w.heap.size + 1 := by rw [World.alloc]; simp only [Array.size_push]
  have hua : Upd (fun _ => False) w (w.alloc (.cells zeroW.toArray 110)) := (Upd.refl _ _).alloc _
  have r := r0.grow hua (fun _ _ h => h)
  have hzb := Blk.new w 110 zeroW.toArray
  have hnF : ¬ F w.heap.size := fun hf => by have := (hF _ hf).2; omega
  refine (first_core bb pl wm x w (fun w1 => ∃ v', BRaw w1 base bb pl pm wm F v' rest (whereM (x :: rest)) ∧ Upd F (w.alloc (.cells zeroW.toArray 110)) w1)
    (fun W => ∃ v', BRaw W base bb pl pm wm F v' rest (whereM rest) ∧ Upd F (w.alloc (.cells zeroW.toArray 110)) W) ?_ ?_).mono ?_
  · refine (wpop_ok pl 1 base v x rest _ (r.place.cell 1) (r.place.frozen 1) r.line (r.line_ne r.place (by decide))).mono ?_
    rintro e w' ⟨rfl, w1, v', hL, hu, ho, hs, hu2⟩
    obtain ⟨r1, hU⟩ := r.sameLine hu hL ho
    refine ⟨rfl, v', r1.grow hu2 (fun i hi e => by have := (r.lt i hi).2; omega), hU.trans hu2 (fun i hi e => by omega)⟩
  · rintro w1 ⟨v', r1, hU⟩
    have hs1 := hU.size
    rw [hz] at hs1
    have hu1 : Upd (fun _ => False) w1 (w1.alloc (.cells x.cells.toArray 110)).drew := ((Upd.refl _ _).alloc _).drew
    have r2 := r1.grow hu1 (fun _ _ h => h)
    obtain ⟨o, hr, hm⟩ := run_delete_int (P := Try.prog) r2.wh Try.underlying98 Try.underlying3 (x.thr : Int) 3 0
    rw [where_first hn] at hm
    obtain ⟨r3, hU3⟩ := r2.setWhere hm
    have hUw : Upd F (w.alloc (.cells zeroW.toArray 110)) (putObj (w1.alloc (.cells x.cells.toArray 110)).drew wm o) := (hU.trans hu1 (fun _ _ h => h.elim)).trans hU3 (fun _ _ h => h)
    have hxb := (Blk.new w1 110 x.cells.toArray).drew
    exact ⟨r1.bus.cell 1, by omega, _, hr, ⟨v', r3, hUw⟩, hzb.upd hUw hnF, hxb.putObj (fun e => r2.wh.ne_blk hxb e.symm) o⟩
  · rintro e w' ⟨rfl, W, ⟨v', r3, hU⟩, hu2⟩
    refine ⟨rfl, (r3.grow hu2 (fun i hi e => hnF (e ▸ hi))).toRep (List.nodup_cons.1 hn).2 ?_ hbl⟩
    exact ((hua.mono (fun _ _ h => h.elim)).trans hU (fun _ _ h => h)).trans hu2 (fun i hi e => by omega)
end
end Go.Proofs.Ytceihchkedjgbaa
