/- A line of ints, as a slice of one's own: one more behind (Push), all of a kind go (Drop). -/
import Derived.Test.YtceihchkedjgbaaDrop2
import Derived.Test.YtceihchkedjgbaaMemReadLaws
namespace Go.Proofs.Ytceihchkedjgbaa
open Go.RowKit Go.Lib

/-- The value v of a line in which L stands, its row among the blocks from base on. -/
def LineV (w : World) (base : Nat) (v : Value) (L : List Int) : Prop := w.ownsRow base 3 1 v L.length (L.map (Value.int .i64))

theorem info_int : (Try.prog.info? 3).map (fun i => (i.zero, i.size, i.bytes)) = some (some (.int .i64 0), 1, 8) := by kernel_rfl

theorem LineV.nil (w : World) (base : Nat) : LineV w base (.slice none 0 0) [] := World.ownsRow_nil _ _ _ _
theorem LineV.shape {w : World} {base : Nat} {v : Value} {L : List Int} (h : LineV w base v L) : ∃ A cap, v = .slice A L.length cap ∧ (0 < L.length → ∃ q, A = some ⟨q, 0, none⟩) := by
  rcases h.2 with ⟨rfl, h0⟩ | ⟨g, cap, cur, rfl, _⟩
  · exact ⟨none, 0, by rw [h0], by omega⟩
  · exact ⟨_, cap, rfl, fun _ => ⟨g, rfl⟩⟩
theorem LineV.kept {w w' : World} {base : Nat} {v : Value} {L : List Int} {F : Nat → Prop} (h : LineV w base v L) (hu : Upd F w w') (hF : ∀ b, v.ownBlock = some b → ¬ F b) : LineV w' base v L := by
  refine ⟨h.1, ?_⟩
  rcases h.2 with hn | ⟨g, cap, cur, rfl, hb, hg, rest⟩
  · exact .inl hn
  · exact .inr ⟨g, cap, cur, rfl, hb, (hu.block g (Array.getElem?_eq_some_iff.1 hg).1 (hF g rfl)).trans hg, rest⟩

theorem push_ok (sb i base : Nat) (v : Value) (L : List Int) (x : Int) (w : World) (hc : w.cell? ⟨sb, i, none⟩ = some v) (hf : w.frozen? ⟨sb, i, none⟩ = false) (hL : LineV w base v L) (hne : v.ownBlock ≠ some sb) (hlen : L.length ≤ 1000000) (hbase : base ≤ w.heap.size) :
    Calls Try.prog 47 #[.pointer (some ⟨sb, i, none⟩), .int .i64 x] w fun e w' => e = .returned (.tuple #[]) ∧ ∃ w1 v', w' = w1.setCell ⟨sb, i, none⟩ v' ∧ LineV w1 base v' (L ++ [x]) ∧ Upd (fun b => v.ownBlock = some b) w w1 ∧
      (v'.ownBlock = v.ownBlock ∨ ∃ b, v'.ownBlock = some b ∧ w.heap.size ≤ b ∧ b < w1.heap.size) := by
  obtain ⟨i0, hi, hz0, hz1, hz2⟩ := info_parts info_int
  have hsb : sb < w.heap.size := World.block_lt_of_cell? w _ hc
  have hB := Blk.new w 3 #[.int .i64 x]
  obtain ⟨v', w1, hr, ho, hg, hn, hb⟩ := run_append_own_at (P := Try.prog) (w.alloc (.cells #[.int .i64 x] 3)) base 57 57 3 i0 _ 1 8 Try.underlying57 hi hz0 hz1 hz2 rfl (by decide) v L.length (L.map (Value.int .i64)) (World.ownsRow.alloc hL _)
    ⟨w.heap.size, 0, none⟩ 1 1 [.int .i64 x] rfl (fun j u hj => by
      have hadd : ((⟨w.heap.size, 0, none⟩ : Addr).add j) = ⟨w.heap.size, j, none⟩ := by unfold Addr.add; split <;> simp_all
      rw [hadd, hB.cell]
      simpa using hj) (fun u hu => by simp at hu; subst hu; rfl) (by unfold maxLen; omega) (by omega) (by simp; omega)
  have hu0 : Upd (fun b => v.ownBlock = some b) w (w.alloc (.cells #[.int .i64 x] 3)) := (Upd.refl _ _).alloc _
  have hu : Upd (fun b => v.ownBlock = some b) w w1 := hu0.grown hg (fun k hk => .inr hk)
  have hb2 : w1.heap[sb]? = w.heap[sb]? := hu.block sb hsb hne
  have hL' : LineV w1 base v' (L ++ [x]) := by
    unfold LineV
    simpa using ho
  obtain ⟨A', c', hv', _⟩ := hL'.shape
  subst hv'
  refine (line_push_core sb i _ c' A' v v x w w1 hc hr ((World.cell?_of_block hb2).trans hc) ((World.frozen?_of_block hb2).trans hf)).mono ?_
  rintro e w' ⟨rfl, rfl⟩
  refine ⟨rfl, w1, _, rfl, hL', hu, ?_⟩
  rcases hb with h | h
  · exact .inl h
  · refine .inr ⟨_, h, by simp, ?_⟩
    exact (World.ownsRow.lt hL' _ h).2

set_option maxHeartbeats 400000 in
theorem drop_core (sb i bt n cap : Nat) (A : Option Addr) (u : Value) (w : World) (R : Nat → World → Prop) (hc : w.cell? ⟨sb, i, none⟩ = some (.slice A n cap))
    (hd : Calls Try.prog 55 #[.slice A n cap, .func (.func 49) #[] #[.pointer (some ⟨bt, 0, none⟩)]] w fun e w' => ∃ n', e = .returned (.slice A n' cap) ∧ R n' w')
    (hR : ∀ n' w', R n' w' → w'.cell? ⟨sb, i, none⟩ = some u ∧ w'.frozen? ⟨sb, i, none⟩ = false) :
    Calls Try.prog 48 #[.pointer (some ⟨sb, i, none⟩), .func (.func 49) #[] #[.pointer (some ⟨bt, 0, none⟩)]] w fun e w' => e = .returned (.tuple #[]) ∧ ∃ n' w1, R n' w1 ∧ w' = w1.setCell ⟨sb, i, none⟩ (.slice A n' cap) := by
  have HD := Lib.hid hd
  have HR := Lib.hid hR
  clear hd hR
  go_enter Try.func48, Try.ntmps48
  go_wp2_with fail
  refine HD.out.mono ?_
  rintro e w2 ⟨n', rfl, hr⟩
  obtain ⟨hc2, hf2⟩ := HR.out _ _ hr
  have HRR := Lib.hid hr
  clear hr HR HD
  go_wp2_with fail
  go_end0
  exact ⟨rfl, _, _, HRR.out, rfl⟩

set_option maxHeartbeats 400000 in
theorem delete_nil (bt : Nat) (t : Int) (w : World) (hbt : w.cell? ⟨bt, 0, none⟩ = some (.int .i64 t)) :
    Calls Try.prog 55 #[.slice none 0 0, .func (.func 49) #[] #[.pointer (some ⟨bt, 0, none⟩)]] w fun e w' => e = .returned (.slice none 0 0) ∧ w = w' := by
  have HI := Lib.hid (index_int (fun _ => 0) t 0 0 0 bt w (by decide) (fun j hj => by omega) hbt none (by omega))
  clear hbt
  go_enter Try.func55, Try.ntmps55
  go_wp2_with fail
  refine HI.out.mono ?_
  rintro e w1 ⟨r, rfl, rfl, ⟨rfl, hall⟩ | ⟨i, rfl, hi, hxi, hpre⟩⟩
  · go_wp2_with fail
    go_ret
    exact ⟨rfl, rfl⟩
  · omega

/-- Those that stay. -/
def without (L : List Int) (t : Int) : List Int := L.filter (fun x => x != t)

theorem drop_ok (sb i bt base : Nat) (v : Value) (L : List Int) (t : Int) (w : World) (hc : w.cell? ⟨sb, i, none⟩ = some v) (hf : w.frozen? ⟨sb, i, none⟩ = false) (hL : LineV w base v L) (hne : v.ownBlock ≠ some sb)
    (hbt : w.cell? ⟨bt, 0, none⟩ = some (.int .i64 t)) (hne2 : v.ownBlock ≠ some bt) :
    Calls Try.prog 48 #[.pointer (some ⟨sb, i, none⟩), .func (.func 49) #[] #[.pointer (some ⟨bt, 0, none⟩)]] w fun e w' => e = .returned (.tuple #[]) ∧
      ∃ w1 v', w' = w1.setCell ⟨sb, i, none⟩ v' ∧ LineV w1 base v' (without L t) ∧ Upd (fun b => v.ownBlock = some b) w w1 ∧ v'.ownBlock = v.ownBlock := by
  have hsb : sb < w.heap.size := World.block_lt_of_cell? w _ hc
  obtain ⟨hlen, hcase⟩ := hL
  rcases hcase with ⟨rfl, h0⟩ | ⟨g, cap, cur, rfl, hb, hg, hn, hcm, hcs, htk⟩
  · have hnil : L = [] := List.eq_nil_of_length_eq_zero h0
    subst hnil
    refine (drop_core sb i bt 0 0 none (.slice none 0 0) w (fun n' w' => n' = 0 ∧ w = w') hc ((delete_nil bt t w hbt).mono ?_) ?_).mono ?_
    · rintro e w' ⟨rfl, rfl⟩
      exact ⟨0, rfl, rfl, rfl⟩
    · rintro n' w' ⟨rfl, rfl⟩
      exact ⟨hc, hf⟩
    · rintro e w' ⟨rfl, n', w1, ⟨rfl, rfl⟩, rfl⟩
      exact ⟨rfl, w, _, rfl, LineV.nil w base, Upd.refl _ _, rfl⟩
  · have hgsb : g ≠ sb := fun h => hne (by rw [h]; rfl)
    have hgbt : bt ≠ g := fun h => hne2 (by rw [h]; rfl)
    have hcell : ∀ j (h : j < L.length), cur[j]? = some (.int .i64 L[j]) := by
      intro j h
      have h1 : (cur.toList.take (L.length * 1))[j]? = some (.int .i64 L[j]) := by rw [htk]; simp [h]
      rw [List.getElem?_take, if_pos (by omega)] at h1
      simpa using h1
    refine (drop_core sb i bt L.length cap (some ⟨g, 0, none⟩) (.slice (some ⟨g, 0, none⟩) L.length cap) w (fun n' w' => n' = (without L t).length ∧ (∃ cs', Blk w' g 3 cs' ∧ cs'.size = cap ∧ ∀ j (h : j < (without L t).length), cs'[j]? = some (.int .i64 (without L t)[j])) ∧ Upd (fun b => b = g) w w') hc
      ((delete_int L t g cap bt cur w hg (by rw [hcs]; omega) hn (by unfold maxLen at hcm; omega) hcell hbt hgbt).mono ?_) ?_).mono ?_
    · rintro e w' ⟨rfl, hcs', hu⟩
      simp only [stay_all] at hcs' ⊢
      exact ⟨_, rfl, rfl, hcs', hu⟩
    · rintro n' w' ⟨rfl, _, hu⟩
      have hb2 := hu.block sb hsb (fun h => hgsb h.symm)
      exact ⟨(World.cell?_of_block hb2).trans hc, (World.frozen?_of_block hb2).trans hf⟩
    · rintro e w' ⟨rfl, n', w1, ⟨rfl, ⟨cs', e1, e2, e3⟩, hu⟩, rfl⟩
      refine ⟨rfl, w1, _, rfl, ⟨by simp, .inr ⟨g, cap, cs', rfl, hb, e1, ?_, hcm, by omega, ?_⟩⟩, hu.mono (fun b _ h => by rw [h]; rfl), rfl⟩
      · exact Nat.le_trans (List.length_filter_le _ _) hn
      · apply List.ext_getElem?
        intro j
        rw [List.getElem?_take]
        by_cases hj : j < (without L t).length
        · rw [if_pos (by omega), Array.getElem?_toList, e3 j hj]
          simp [hj]
        · rw [if_neg (by omega), List.getElem?_eq_none (by simpa using hj)]
end Go.Proofs.Ytceihchkedjgbaa
