/- A slice of ints of the call's own; what is none of a Pool's blocks; the mark's sums. -/
import Derived.Test.YtjjgdacjfmiamaaPoolW9
namespace Go.Proofs.Ytjjgdacjfmiamaa
open Go.RowKit Go.Lib

def IntV (w : World) (base : Nat) (v : Value) (L : List Int) : Prop := w.ownsRow base 3 1 v L.length (L.map (Value.int .i64))
theorem info_int : (Try.prog.info? 3).map (fun i => (i.zero, i.size, i.bytes)) = some (some (.int .i64 0), 1, 8) := by kernel_rfl

theorem IntV.nil (w : World) (base : Nat) : IntV w base (.slice none 0 0) [] := World.ownsRow_nil _ _ _ _
theorem IntV.kept {w w' : World} {base : Nat} {v : Value} {L : List Int} {F : Nat → Prop} (h : IntV w base v L) (hu : Upd F w w') (hF : ∀ b, v.ownBlock = some b → ¬ F b) : IntV w' base v L := by
  refine ⟨h.1, ?_⟩
  rcases h.2 with hn | ⟨g, cap, cur, rfl, hb, hg, rest⟩
  · exact .inl hn
  · exact .inr ⟨g, cap, cur, rfl, hb, (hu.block g (Array.getElem?_eq_some_iff.1 hg).1 (hF g rfl)).trans hg, rest⟩
theorem IntV.blk {w : World} {base : Nat} {v : Value} {L : List Int} (h : IntV w base v L) {b : Nat} (hb : v.ownBlock = some b) : base ≤ b ∧ ∃ cs, Blk w b 3 cs := by
  rcases h.2 with ⟨rfl, _⟩ | ⟨g, cap, cur, rfl, hg, hbb, _⟩
  · cases hb
  · cases hb
    exact ⟨hg, cur, hbb⟩
theorem IntV.shape {w : World} {base : Nat} {v : Value} {L : List Int} (h : IntV w base v L) : ∃ A cap, v = .slice A L.length cap ∧ cap ≤ maxLen := by
  rcases h.2 with ⟨rfl, h0⟩ | ⟨g, cap, cur, rfl, hg, hb, _, hcm, _⟩
  · exact ⟨none, 0, by rw [h0], by unfold maxLen; omega⟩
  · exact ⟨_, cap, rfl, hcm⟩
theorem IntV.cell {w : World} {base : Nat} {v : Value} {L : List Int} (h : IntV w base v L) (hpos : 0 < L.length) : ∃ q cap, v = .slice (some ⟨q, 0, none⟩) L.length cap ∧ base ≤ q ∧ q < w.heap.size ∧ ∀ i (h : i < L.length), w.cell? ⟨q, i, none⟩ = some (.int .i64 L[i]) := by
  rcases h.2 with ⟨rfl, h0⟩ | ⟨g, cap, cur, rfl, hb, hg, hn, hcm, hcs, htk⟩
  · omega
  · refine ⟨g, cap, rfl, hb, (Array.getElem?_eq_some_iff.1 hg).1, fun i hi => ?_⟩
    rw [cell_of_row w g i cur _ (0, 0) hg]
    have h1 : (cur.toList.take (L.length * 1))[i]? = some (.int .i64 L[i]) := by rw [htk]; simp [hi]
    rw [List.getElem?_take, if_pos (by omega)] at h1
    simpa using h1

theorem IntV.app {w : World} {base : Nat} {v : Value} {L : List Int} (h : IntV w base v L) (x : Int) (hbase : base ≤ w.heap.size) (hlen : L.length ≤ 1000000) :
    ∃ A' n' c' w1, (Builtin.append_ #[37, 37] 37 #[v, .slice (some ⟨w.heap.size, 0, none⟩) 1 1]).run Try.prog (w.alloc (.cells #[.int .i64 x] 3)) = .ok (.slice A' n' c') w1 ∧ IntV w1 base (.slice A' n' c') (L ++ [x]) ∧ Upd (fun b => v.ownBlock = some b) w w1 := by
  obtain ⟨i0, hi, hz0, hz1, hz2⟩ := info_parts info_int
  have hB := Blk.new w 3 #[.int .i64 x]
  obtain ⟨v', w1, hr, ho, hg, hn, hb⟩ := run_append_own_at (P := Try.prog) (w.alloc (.cells #[.int .i64 x] 3)) base 37 37 3 i0 _ 1 8 Try.underlying37 hi hz0 hz1 hz2 rfl (by decide) v L.length (L.map (Value.int .i64)) (World.ownsRow.alloc h _)
    ⟨w.heap.size, 0, none⟩ 1 1 [.int .i64 x] rfl (fun j u hj => by
      have hadd : ((⟨w.heap.size, 0, none⟩ : Addr).add j) = ⟨w.heap.size, j, none⟩ := by unfold Addr.add; split <;> simp_all
      rw [hadd, hB.cell]
      simpa using hj) (fun u hu => by simp at hu; subst hu; rfl) (by unfold maxLen; omega) (by omega) (by simp; omega)
  have hu0 : Upd (fun b => v.ownBlock = some b) w (w.alloc (.cells #[.int .i64 x] 3)) := (Upd.refl _ _).alloc _
  have hu : Upd (fun b => v.ownBlock = some b) w w1 := hu0.grown hg (fun k hk => .inr hk)
  have ho' : IntV w1 base v' (L ++ [x]) := by
    unfold IntV
    simpa using ho
  obtain ⟨A', c', hv', _⟩ := ho'.shape
  subst hv'
  exact ⟨A', _, c', w1, hr, ho', hu⟩

section
variable {w : World} {base pb mb gb : Nat} {K : Nat → Nat} {E : List Reg}

/-- A block of ints is none of the Pool's. -/
theorem PRep.not_own (h : PRep w base pb mb gb K E) {g : Nat} {cs : Array Value} (hb : Blk w g 3 cs) : ¬ Own pb mb gb E g := by
  rintro (rfl | rfl | rfl | ⟨r, hr, rfl⟩)
  · exact hb.ne_ h.pool (by decide) rfl
  · obtain ⟨c, hm, _⟩ := h.map
    exact hm.ne_blk hb rfl
  · exact hb.ne_ h.page (by decide) rfl
  · exact hb.ne_ (h.reg r hr) (by decide) rfl

theorem PStep.ints {w' : World} {K' : Nat → Nat} {E' : List Reg} (h : PRep w base pb mb gb K E) (k : PStep w w' base pb mb gb E K' E') {b : Nat} {v : Value} {L : List Int} (hv : IntV w b v L) : IntV w' b v L :=
  hv.kept k.upd (fun g hg => by
    obtain ⟨_, cs, hb⟩ := hv.blk hg
    exact h.not_own hb)
/-- Blocks that are new since w and none of the Pool's may turn. -/
theorem PStep.aside {w1 w2 : World} {K1 : Nat → Nat} {E1 : List Reg} (k : PStep w w1 base pb mb gb E K1 E1) {F : Nat → Prop} (hu : Upd F w1 w2) (hF : ∀ i, Own pb mb gb E1 i → ¬ F i) (hF2 : ∀ i, F i → w.heap.size ≤ i) : PStep w w2 base pb mb gb E K1 E1 :=
  ⟨k.rep.grow hu hF, k.upd.trans hu (fun i hi hf => absurd (hF2 i hf) (by omega)), k.own⟩
end

/-- What the mark is rounded up to. -/
def up (mk n : Nat) : Nat := (mk + n - 1) / n * n
/-- Where giving begins. -/
def mk0 (K : Nat → Nat) (E : List Reg) (r : Reg) : Nat := if clearB K E r = true then 0 else r.mark
/-- The numbers that are given. -/
def nums (hi a n c : Nat) : List Int := (List.range c).map (fun t => ((hi + a + t * n : Nat) : Int))
theorem nums_succ (hi a n c : Nat) : nums hi a n (c + 1) = nums hi a n c ++ [((hi + a + c * n : Nat) : Int)] := by unfold nums; rw [List.range_succ, List.map_append]; rfl
theorem nums_len (hi a n c : Nat) : (nums hi a n c).length = c := by unfold nums; simp
end Go.Proofs.Ytjjgdacjfmiamaa
