/- A line of waiters: Drop and All. -/
import Derived.Test.YtceihchkedjgbaaWait5
namespace Go.Proofs.Ytceihchkedjgbaa
open Go.RowKit Go.Lib

set_option maxHeartbeats 400000 in
theorem wdrop_core (sb i bt n cap q : Nat) (u : Value) (n' : Nat) (w : World) (R : World → Prop) (hc : w.cell? ⟨sb, i, none⟩ = some (.slice (some ⟨q, 0, none⟩) n cap))
    (hd : Calls Try.prog 50 #[.slice (some ⟨q, 0, none⟩) n cap, .func (.func 37) #[] #[.pointer (some ⟨bt, 0, none⟩)]] w fun e w' => e = .returned (.slice (some ⟨q, 0, none⟩) n' cap) ∧ R w')
    (hR : ∀ w', R w' → w'.cell? ⟨sb, i, none⟩ = some u ∧ w'.frozen? ⟨sb, i, none⟩ = false) :
    Calls Try.prog 36 #[.pointer (some ⟨sb, i, none⟩), .func (.func 37) #[] #[.pointer (some ⟨bt, 0, none⟩)]] w fun e w' => e = .returned (.tuple #[]) ∧ ∃ w1, R w1 ∧ w' = w1.setCell ⟨sb, i, none⟩ (.slice (some ⟨q, 0, none⟩) n' cap) := by
  have HD := Lib.hid hd
  have HR := Lib.hid hR
  clear hd hR
  go_enter Try.func36, Try.ntmps36
  go_wp2_with fail
  refine HD.out.mono ?_
  rintro e w2 ⟨rfl, hr⟩
  obtain ⟨hc2, hf2⟩ := HR.out _ hr
  have HRR := Lib.hid hr
  clear hr HR HD
  go_wp2_with fail
  go_end0
  exact ⟨rfl, _, HRR.out, rfl⟩

/-- The one at place k goes. -/
theorem wdrop_ok (sb i bt base : Nat) (v : Value) (L : List Wt) (k t : Nat) (hk : k < L.length) (hkt : L[k].thr = t) (hpre : ∀ j (h : j < L.length), j ≠ k → L[j].thr ≠ t) (hlen : L.length ≤ 1000000) (w : World) (hc : w.cell? ⟨sb, i, none⟩ = some v) (hf : w.frozen? ⟨sb, i, none⟩ = false) (hL : LineW w base v L) (hne : v.ownBlock ≠ some sb)
    (hbt : w.cell? ⟨bt, 0, none⟩ = some (.int .i64 t)) (hne2 : v.ownBlock ≠ some bt) :
    Calls Try.prog 36 #[.pointer (some ⟨sb, i, none⟩), .func (.func 37) #[] #[.pointer (some ⟨bt, 0, none⟩)]] w fun e w' => e = .returned (.tuple #[]) ∧
      ∃ w1 v', w' = w1.setCell ⟨sb, i, none⟩ v' ∧ LineW w1 base v' (L.eraseIdx k) ∧ Upd (fun b => v.ownBlock = some b) w w1 ∧ v'.ownBlock = v.ownBlock := by
  have hsb : sb < w.heap.size := World.block_lt_of_cell? w _ hc
  rcases hL with ⟨hl, ⟨_, h0⟩ | ⟨g, cap, cur, rfl, hb, hg, hn, hcm, hcs, htk⟩⟩
  · omega
  · have hgsb : g ≠ sb := fun h => hne (by rw [h]; rfl)
    have hgbt : bt ≠ g := fun h => hne2 (by rw [h]; rfl)
    refine (wdrop_core sb i bt L.length cap g (.slice (some ⟨g, 0, none⟩) L.length cap) (L.length - 1) w (fun w' => (∃ cs', Blk w' g 110 cs' ∧ cs'.size = cap * 8 ∧ cs'.toList.take ((L.length - 1) * 8) = rowW (L.eraseIdx k)) ∧ Upd (fun b => b = g) w w') hc
      ((wdelf_ok L k t g cap bt cur w hk hkt hpre hlen hg hcs hn (by unfold maxLen at hcm; omega) htk hbt hgbt).mono ?_) ?_).mono ?_
    · rintro e w' ⟨rfl, h1, h2⟩
      exact ⟨rfl, h1, h2⟩
    · rintro w' ⟨_, hu⟩
      have hb2 := hu.block sb hsb (fun h => hgsb h.symm)
      exact ⟨(World.cell?_of_block hb2).trans hc, (World.frozen?_of_block hb2).trans hf⟩
    · rintro e w' ⟨rfl, w1, ⟨⟨cs', d1, d2, d3⟩, hu⟩, rfl⟩
      have hel : (L.eraseIdx k).length = L.length - 1 := by rw [List.length_eraseIdx, if_pos hk]
      refine ⟨rfl, w1, _, rfl, ⟨?_, .inr ⟨g, cap, cs', ?_, hb, d1, by omega, hcm, d2, ?_⟩⟩, hu.mono (fun b _ h => by rw [h]; rfl), rfl⟩
      · exact rowW_len _
      · rw [hel]
      · rw [hel]; exact d3

set_option maxHeartbeats 400000 in
theorem wall_ok (sb i : Nat) (w : World) :
    Calls Try.prog 45 #[.pointer (some ⟨sb, i, none⟩)] w fun e w' => e = .returned (.func (.func 54) #[] #[.pointer (some ⟨w.heap.size, 0, none⟩)]) ∧ w' = w.alloc (.cells #[.pointer (some ⟨sb, i, none⟩)] 125) := by
  go_enter Try.func45, Try.ntmps45
  go_wp2
  go_ret
  exact ⟨rfl, rfl⟩
end Go.Proofs.Ytceihchkedjgbaa
