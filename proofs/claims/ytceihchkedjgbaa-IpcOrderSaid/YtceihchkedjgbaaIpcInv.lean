/- IpcOrder: the Bus and the law's two lists, as they stand in memory. -/
import Derived.Test.YtceihchkedjgbaaBusLine2
import Derived.Test.YtceihchkedjgbaaCut
namespace Go.Proofs.Ytceihchkedjgbaa
open Go.RowKit Go.Lib

/-- A Bus at which L waits, and two lists of ints of the law's own (values vl, vw). -/
def InI (w : World) (base bb pl : Nat) (L : List Wt) (M1 M2 : List Int) (vl vw : Value) (wr : World) : Prop :=
  ∃ F, BRep wr base bb pl F L ∧ LineV wr w.heap.size vl M1 ∧ LineV wr w.heap.size vw M2 ∧ (∀ b, vl.ownBlock = some b → ¬ F b) ∧ (∀ b, vw.ownBlock = some b → ¬ F b) ∧ (∀ b, vl.ownBlock = some b → vw.ownBlock ≠ some b) ∧ Below w.heap.size w wr ∧ w.heap.size ≤ base

section
variable {w wr : World} {base bb pl : Nat} {L : List Wt} {M1 M2 : List Int} {vl vw : Value}

theorem LineV.blk1 {w : World} {base : Nat} {v : Value} {L : List Int} (h : LineV w base v L) {b : Nat} (hb : v.ownBlock = some b) : ∃ cs, Blk w b 3 cs := by
  rcases h.2 with ⟨rfl, _⟩ | ⟨g, cap, cur, rfl, _, hg, _⟩
  · cases hb
  · cases hb
    exact ⟨cur, hg⟩

theorem LineV.lt {w : World} {base : Nat} {v : Value} {L : List Int} (h : LineV w base v L) {b : Nat} (hb : v.ownBlock = some b) : b < w.heap.size := by
  obtain ⟨cs, hc⟩ := h.blk1 hb
  exact hc.lt

theorem LineV.ge {w : World} {base : Nat} {v : Value} {L : List Int} (h : LineV w base v L) {b : Nat} (hb : v.ownBlock = some b) : base ≤ b := by
  rcases h.2 with ⟨rfl, _⟩ | ⟨g, cap, cur, rfl, hge, _⟩
  · cases hb
  · cases hb
    exact hge

/-- One who stands in a list. -/
theorem LineV.cell {w : World} {base : Nat} {v : Value} {L : List Int} (h : LineV w base v L) (hpos : 0 < L.length) : ∃ q cap, v = .slice (some ⟨q, 0, none⟩) L.length cap ∧ ∀ j (hj : j < L.length), w.cell? ⟨q, j, none⟩ = some (.int .i64 L[j]) := by
  rcases h.2 with ⟨rfl, h0⟩ | ⟨g, cap, cur, rfl, _, hg, hn, _, hcs, htk⟩
  · omega
  · refine ⟨g, cap, rfl, fun j hj => ?_⟩
    rw [cell_of_row w g _ cur _ (0, 0) hg]
    have h1 : (cur.toList.take (L.length * 1))[j]? = some (.int .i64 L[j]) := by rw [htk]; simp [hj]
    rw [List.getElem?_take, if_pos (by omega)] at h1
    simpa using h1

theorem InI.below (h : InI w base bb pl L M1 M2 vl vw wr) : Below w.heap.size w wr := by
  obtain ⟨F, _, _, _, _, _, _, hb, _⟩ := h
  exact hb
theorem InI.l1 (h : InI w base bb pl L M1 M2 vl vw wr) : LineV wr w.heap.size vl M1 := by
  obtain ⟨F, _, a, _⟩ := h
  exact a
theorem InI.l2 (h : InI w base bb pl L M1 M2 vl vw wr) : LineV wr w.heap.size vw M2 := by
  obtain ⟨F, _, _, a, _⟩ := h
  exact a
theorem InI.nodup (h : InI w base bb pl L M1 M2 vl vw wr) : (L.map Wt.thr).Nodup := by
  obtain ⟨F, a, _⟩ := h
  exact a.1

/-- New blocks alone. -/
theorem InI.same {w' : World} (h : InI w base bb pl L M1 M2 vl vw wr) (hu : Upd (fun _ => False) wr w') : InI w base bb pl L M1 M2 vl vw w' := by
  obtain ⟨F, a, b, c, d1, d2, d3, e, f⟩ := h
  exact ⟨F, a.grow hu (fun _ _ h => h), b.kept hu (fun _ _ h => h), c.kept hu (fun _ _ h => h), d1, d2, d3, e.trans (hu.below' e.size (fun _ _ h => h)), f⟩

/-- A call of the Bus. -/
theorem InI.bus0 (h : InI w base bb pl L M1 M2 vl vw wr) : ∃ F, BRep wr base bb pl F L ∧ ∀ w2 L', BNext base bb pl F wr w2 L' → InI w base bb pl L' M1 M2 vl vw w2 := by
  obtain ⟨F, a, b, c, d1, d2, d3, e, f⟩ := h
  refine ⟨F, a, fun w2 L' k => ⟨_, k.rep, b.kept k.upd d1, c.kept k.upd d2, fun g hg hf => d1 g hg (bext_low (b.lt hg) hf), fun g hg hf => d2 g hg (bext_low (c.lt hg) hf), d3, ?_, f⟩⟩
  exact e.trans (k.upd.below' e.size (fun i hi hf => by have := (a.lowF i hf).1; omega))

/-- A call of the Bus, whose outcome is then stored in a block that was made ahead of the call. -/
theorem InI.bus (h : InI w base bb pl L M1 M2 vl vw wr) : ∃ F, BRep (wr.alloc (.cells zeroO.toArray 66)) base bb pl F L ∧ ∀ w2 L', BNext base bb pl F (wr.alloc (.cells zeroO.toArray 66)) w2 L' →
    Blk w2 wr.heap.size 66 zeroO.toArray ∧ InI w base bb pl L' M1 M2 vl vw w2 ∧ ∀ e p l b, InI w base bb pl L' M1 M2 vl vw (put11 w2 wr.heap.size e p l b) := by
  have hz : (wr.alloc (.cells zeroO.toArray 66)).heap.size = wr.heap.size + 1 := by rw [World.alloc]; simp only [Array.size_push]
  have hua : Upd (fun _ => False) wr (wr.alloc (.cells zeroO.toArray 66)) := (Upd.refl _ _).alloc _
  have hob := Blk.new wr 66 zeroO.toArray
  obtain ⟨F, a, b, c, d1, d2, d3, e, f⟩ := h
  have ha := a.grow hua (fun _ _ h => h)
  have hF := a.lowF
  have hnF : ¬ F wr.heap.size := fun hf => by have := (hF _ hf).2; omega
  have b1 := fun w2 L' (k : BNext base bb pl F (wr.alloc (.cells zeroO.toArray 66)) w2 L') => (b.kept hua (fun _ _ h => h)).kept k.upd d1
  have c1 := fun w2 L' (k : BNext base bb pl F (wr.alloc (.cells zeroO.toArray 66)) w2 L') => (c.kept hua (fun _ _ h => h)).kept k.upd d2
  refine ⟨F, ha, fun w2 L' k => ⟨hob.upd k.upd hnF, ⟨_, k.rep, b1 w2 L' k, c1 w2 L' k, fun g hg hf => d1 g hg (bext_low (by have := b.lt hg; omega) hf), fun g hg hf => d2 g hg (bext_low (by have := c.lt hg; omega) hf), d3, ?_, f⟩, fun er p l bo => ?_⟩⟩
  · have e1 := e.trans (hua.below' e.size (fun _ _ h => h))
    exact e1.trans (k.upd.below' e1.size (fun i hi hf => by have := (hF i hf).1; omega))
  have hu : Upd (fun x => x = wr.heap.size) w2 (put11 w2 wr.heap.size er p l bo) := Upd.put11 _ _ _ _ _ _
  have hext : ∀ i, Ext F (wr.alloc (.cells zeroO.toArray 66)) w2 i → ¬ i = wr.heap.size := by
    rintro i (hi | ⟨x, y⟩) ee
    · exact hnF (ee ▸ hi)
    · omega
  have hbl : Below w.heap.size w (put11 w2 wr.heap.size er p l bo) := by
    have e1 := e.trans (hua.below' e.size (fun _ _ h => h))
    have e2 := e1.trans (k.upd.below' e1.size (fun i hi hf => by have := (hF i hf).1; omega))
    exact e2.trans (hu.below' e2.size (fun i hi hf => by have := e.size; omega))
  refine ⟨_, k.rep.grow hu hext, (b1 w2 L' k).kept hu (fun g hg ee => by have := b.lt hg; omega), (c1 w2 L' k).kept hu (fun g hg ee => by have := c.lt hg; omega), fun g hg hf => d1 g hg (bext_low (by have := b.lt hg; omega) hf), fun g hg hf => d2 g hg (bext_low (by have := c.lt hg; omega) hf), d3, hbl, f⟩

theorem InI.cut1 (h : InI w base bb pl L M1 M2 vl vw wr) (k : Nat) (hk : k < M1.length) (hlen : M1.length ≤ 1000000) :
    Calls Try.prog 22 #[vl, .int .i64 k] wr fun e w' => ∃ v', e = .returned v' ∧ InI w base bb pl L (M1.eraseIdx k) M2 v' vw w' := by
  obtain ⟨F, a, b, c, d1, d2, d3, e, f⟩ := h
  refine (cut_ok _ vl M1 k hk hlen wr b).mono ?_
  rintro en w' ⟨v', rfl, hv, hu⟩
  have hge : ∀ g, v'.ownBlock = some g → wr.heap.size ≤ g := fun g hg => hv.ge hg
  have hv0 : LineV w' w.heap.size v' (M1.eraseIdx k) := by
    refine ⟨hv.1, ?_⟩
    rcases hv.2 with hx | ⟨g, cap, cur, e1, e2, e3⟩
    · exact .inl hx
    · exact .inr ⟨g, cap, cur, e1, Nat.le_trans e.size e2, e3⟩
  exact ⟨v', rfl, F, a.grow hu (fun _ _ h => h), hv0, c.kept hu (fun _ _ h => h), fun g hg hf => by have := hge g hg; have := (a.lowF g hf).2; omega, d2, fun g hg h2 => by have := hge g hg; have := c.lt h2; omega, e.trans (hu.below' e.size (fun _ _ h => h)), f⟩

theorem InI.cut2 (h : InI w base bb pl L M1 M2 vl vw wr) (k : Nat) (hk : k < M2.length) (hlen : M2.length ≤ 1000000) :
    Calls Try.prog 22 #[vw, .int .i64 k] wr fun e w' => ∃ v', e = .returned v' ∧ InI w base bb pl L M1 (M2.eraseIdx k) vl v' w' := by
  obtain ⟨F, a, b, c, d1, d2, d3, e, f⟩ := h
  refine (cut_ok _ vw M2 k hk hlen wr c).mono ?_
  rintro en w' ⟨v', rfl, hv, hu⟩
  have hge : ∀ g, v'.ownBlock = some g → wr.heap.size ≤ g := fun g hg => hv.ge hg
  have hv0 : LineV w' w.heap.size v' (M2.eraseIdx k) := by
    refine ⟨hv.1, ?_⟩
    rcases hv.2 with hx | ⟨g, cap, cur, e1, e2, e3⟩
    · exact .inl hx
    · exact .inr ⟨g, cap, cur, e1, Nat.le_trans e.size e2, e3⟩
  exact ⟨v', rfl, F, a.grow hu (fun _ _ h => h), b.kept hu (fun _ _ h => h), hv0, d1, fun g hg hf => by have := hge g hg; have := (a.lowF g hf).2; omega, fun g hg h2 => by have := hge g h2; have := b.lt hg; omega, e.trans (hu.below' e.size (fun _ _ h => h)), f⟩

/-- One more in a list, by append's run. -/
theorem app_one {w : World} {base : Nat} {v : Value} {L : List Int} (h : LineV w base v L) (x : Int) (hlen : L.length ≤ 1000000) (hb : base ≤ w.heap.size) :
    ∃ A n c W, (Builtin.append_ #[57, 57] 57 #[v, .slice (some ⟨w.heap.size, 0, none⟩) 1 1]).run Try.prog (w.alloc (.cells #[.int .i64 x] 3)) = .ok (.slice A n c) W ∧ LineV W base (.slice A n c) (L ++ [x]) ∧ Upd (fun b => v.ownBlock = some b) w W ∧
      ((Value.slice A n c).ownBlock = v.ownBlock ∨ ∃ b, (Value.slice A n c).ownBlock = some b ∧ w.heap.size ≤ b) := by
  obtain ⟨i0, hi, hz0, hz1, hz2⟩ := info_parts info_int
  have hB := Blk.new w 3 #[.int .i64 x]
  obtain ⟨v', w1, hr, ho, hg, hn, hb1⟩ := run_append_own_at (P := Try.prog) (w.alloc (.cells #[.int .i64 x] 3)) base 57 57 3 i0 _ 1 8 Try.underlying57 hi hz0 hz1 hz2 rfl (by decide) v L.length (L.map (Value.int .i64)) (World.ownsRow.alloc h _)
    ⟨w.heap.size, 0, none⟩ 1 1 [.int .i64 x] rfl (fun j u hj => by
      rw [show ((⟨w.heap.size, 0, none⟩ : Addr).add j) = ⟨w.heap.size, j, none⟩ by unfold Addr.add; split <;> simp_all, hB.cell]
      simpa using hj) (fun u hu => by simp at hu; subst hu; rfl) (by unfold maxLen; omega) (by omega) (by simp; omega)
  have hu : Upd (fun b => v.ownBlock = some b) w w1 := ((Upd.refl _ _).alloc _).grown hg (fun k hk => .inr hk)
  have hL' : LineV w1 base v' (L ++ [x]) := by
    unfold LineV
    simpa using ho
  obtain ⟨A', c', hv', _⟩ := hL'.shape
  subst hv'
  refine ⟨A', _, c', w1, hr, hL', hu, ?_⟩
  rcases hb1 with h1 | h1
  · exact .inl h1
  · exact .inr ⟨_, h1, by simp⟩

theorem InI.app1 (h : InI w base bb pl L M1 M2 vl vw wr) (x : Int) (hlen : M1.length ≤ 1000000) :
    ∃ A n c W, (Builtin.append_ #[57, 57] 57 #[vl, .slice (some ⟨wr.heap.size, 0, none⟩) 1 1]).run Try.prog (wr.alloc (.cells #[.int .i64 x] 3)) = .ok (.slice A n c) W ∧ InI w base bb pl L (M1 ++ [x]) M2 (.slice A n c) vw W := by
  obtain ⟨F, a, b, c, d1, d2, d3, e, f⟩ := h
  obtain ⟨A, n, c', W, hr, hL, hu, ho⟩ := app_one b x hlen e.size
  have hnew : ∀ g, (Value.slice A n c').ownBlock = some g → vl.ownBlock = some g ∨ wr.heap.size ≤ g := fun g hg => by
    rcases ho with h1 | ⟨b', h1, h2⟩
    · exact .inl (by rw [← h1]; exact hg)
    · rw [hg] at h1
      exact .inr (by rw [Option.some.inj h1]; exact h2)
  refine ⟨A, n, c', W, hr, F, a.grow hu (fun i hi h2 => d1 i h2 hi), hL, c.kept hu (fun g hg h2 => d3 g h2 hg), fun g hg hf => ?_, d2, fun g hg h2 => ?_, e.trans (hu.below' e.size (fun i hi h2 => by have := b.ge h2; omega)), f⟩
  · rcases hnew g hg with h1 | h1
    · exact d1 g h1 hf
    · have := (a.lowF g hf).2; omega
  · rcases hnew g hg with h1 | h1
    · exact d3 g h1 h2
    · have := c.lt h2; omega

theorem InI.app2 (h : InI w base bb pl L M1 M2 vl vw wr) (x : Int) (hlen : M2.length ≤ 1000000) :
    ∃ A n c W, (Builtin.append_ #[57, 57] 57 #[vw, .slice (some ⟨wr.heap.size, 0, none⟩) 1 1]).run Try.prog (wr.alloc (.cells #[.int .i64 x] 3)) = .ok (.slice A n c) W ∧ InI w base bb pl L M1 (M2 ++ [x]) vl (.slice A n c) W := by
  obtain ⟨F, a, b, c, d1, d2, d3, e, f⟩ := h
  obtain ⟨A, n, c', W, hr, hL, hu, ho⟩ := app_one c x hlen e.size
  have hnew : ∀ g, (Value.slice A n c').ownBlock = some g → vw.ownBlock = some g ∨ wr.heap.size ≤ g := fun g hg => by
    rcases ho with h1 | ⟨b', h1, h2⟩
    · exact .inl (by rw [← h1]; exact hg)
    · rw [hg] at h1
      exact .inr (by rw [Option.some.inj h1]; exact h2)
  refine ⟨A, n, c', W, hr, F, a.grow hu (fun i hi h2 => d2 i h2 hi), b.kept hu (fun g hg h2 => d3 g hg h2), hL, d1, fun g hg hf => ?_, fun g hg h2 => ?_, e.trans (hu.below' e.size (fun i hi h2 => by have := c.ge h2; omega)), f⟩
  · rcases hnew g hg with h1 | h1
    · exact d2 g h1 hf
    · have := (a.lowF g hf).2; omega
  · rcases hnew g h2 with h1 | h1
    · exact d3 g hg h1
    · have := b.lt hg; omega

/-- The Bus tells who waits. -/
theorem InI.line (h : InI w base bb pl L M1 M2 vl vw wr) (hlen : L.length ≤ 1000000) :
    Calls Try.prog 25 #[.pointer (some ⟨bb, 0, none⟩), .int .i64 5] wr fun en w' => ∃ v, en = .returned (.tuple #[v, .int .i64 0]) ∧ LineV w' wr.heap.size v (L.map (fun x => (x.thr : Int))) ∧ InI w base bb pl L M1 M2 vl vw w' := by
  obtain ⟨F, hr, hn⟩ := h.bus0
  refine (line_ok hr hlen).mono ?_
  rintro en w' ⟨v, rfl, ho, hb⟩
  refine ⟨v, rfl, ?_, h.same (Upd.of_below hb _)⟩
  unfold LineV
  rw [List.length_map, List.map_map]
  exact ho
end
end Go.Proofs.Ytceihchkedjgbaa
