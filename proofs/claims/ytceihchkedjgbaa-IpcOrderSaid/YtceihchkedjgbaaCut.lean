/- cut: a list without the element at a place. -/
import Derived.Test.YtceihchkedjgbaaLineOps
namespace Go.Proofs.Ytceihchkedjgbaa
open Go.RowKit Go.Lib

set_option maxRecDepth 100000 in
set_option maxHeartbeats 1600000 in
theorem cut_core (g n cap k n1 c1 n2 c2 : Nat) (A1 A2 : Option Addr) (w w1 w2 : World) (hk : k < n) (hn : n ≤ cap) (hc : cap ≤ 9223372036854775807)
    (ha1 : (Builtin.append_ #[57, 57] 57 #[.slice none 0 0, .slice (some ⟨g, 0, none⟩) k cap]).run Try.prog w = .ok (.slice A1 n1 c1) w1)
    (ha2 : (Builtin.append_ #[57, 57] 57 #[.slice A1 n1 c1, .slice (some ⟨g, if cap = k + 1 then 0 else k + 1, none⟩) (n - (k + 1)) (cap - (k + 1))]).run Try.prog w1 = .ok (.slice A2 n2 c2) w2) :
    Calls Try.prog 22 #[.slice (some ⟨g, 0, none⟩) n cap, .int .i64 k] w fun e w' => e = .returned (.slice A2 n2 c2) ∧ w' = w2 := by
  have h1 : (k : Int) ≤ (cap : Int) := by omega
  have h2 : (k : Int) + 1 ≤ (n : Int) := by omega
  have h3 : (n : Int) ≤ (cap : Int) := by omega
  by_cases hcc : cap = k + 1
  · rw [if_pos hcc] at ha2
    have HA1 := Lib.hid ha1
    have HA2 := Lib.hid ha2
    clear ha1 ha2
    go_enter Try.func22, Try.ntmps22
    go_wp2_with (first
      | (at_builtin; refine Lib.wpList_append_run _ rfl _ _ _ _ rfl _ _ rfl rfl _ _ HA1.out ?_; clear HA1)
      | (at_builtin; refine Lib.wpList_append_run _ rfl _ _ _ _ rfl _ _ rfl rfl _ _ HA2.out ?_))
    go_ret
    exact ⟨rfl, rfl⟩
  · rw [if_neg hcc] at ha2
    have HA1 := Lib.hid ha1
    have HA2 := Lib.hid ha2
    clear ha1 ha2
    go_enter Try.func22, Try.ntmps22
    go_wp2_with (first
      | (at_builtin; refine Lib.wpList_append_run _ rfl _ _ _ _ rfl _ _ rfl rfl _ _ HA1.out ?_; clear HA1)
      | (at_builtin; refine Lib.wpList_append_run _ rfl _ _ _ _ rfl _ _ rfl rfl _ _ HA2.out ?_))
    go_ret
    exact ⟨rfl, rfl⟩

theorem cut_ok (base : Nat) (v : Value) (L : List Int) (k : Nat) (hk : k < L.length) (hlen : L.length ≤ 1000000) (w : World) (hL : LineV w base v L) :
    Calls Try.prog 22 #[v, .int .i64 k] w fun e w' => ∃ v', e = .returned v' ∧ LineV w' w.heap.size v' (L.eraseIdx k) ∧ Upd (fun _ => False) w w' := by
  obtain ⟨i0, hi, hz0, hz1, hz2⟩ := info_parts info_int
  rcases hL with ⟨hl, ⟨_, h0⟩ | ⟨g, cap, cur, rfl, hbg, hg, hn, hcm, hcs, htk⟩⟩
  · omega
  · have hB : Blk w g 3 cur := hg
    have hcell : ∀ j u, (L.map (Value.int .i64))[j]? = some u → cur[j]? = some u := fun j u hj => by
      have hjl : j < L.length := by simpa using (List.getElem?_eq_some_iff.1 hj).1
      have h1 : (cur.toList.take (L.length * 1))[j]? = some u := by rw [htk]; exact hj
      rw [List.getElem?_take, if_pos (by omega)] at h1
      simpa using h1
    obtain ⟨v1, w1, hr1, ho1, hg1, hn1, hb1⟩ := run_append_own_at (P := Try.prog) w w.heap.size 57 57 3 i0 _ 1 8 Try.underlying57 hi hz0 hz1 hz2 rfl (by decide) (.slice none 0 0) 0 [] (World.ownsRow_nil _ _ _ _)
      ⟨g, 0, none⟩ k cap ((L.take k).map (Value.int .i64)) (by simp; omega) (fun j u hj => by
        rw [show ((⟨g, 0, none⟩ : Addr).add j) = ⟨g, j, none⟩ by unfold Addr.add; split <;> simp_all, hB.cell]
        refine hcell j u ?_
        rw [List.map_take, List.getElem?_take] at hj
        split at hj
        · exact hj
        · cases hj) (fun u hu => by
        obtain ⟨x, _, rfl⟩ := List.mem_map.1 hu
        rfl) (by unfold maxLen; omega) (by omega) (Nat.le_refl _)
    have hu1 : Upd (fun _ => False) w w1 := (Upd.refl (fun _ => False) w).grown hg1 (fun k hk => by cases hk)
    have hs1 : ∃ A1 c1, v1 = .slice A1 k c1 := by
      rcases ho1.2 with ⟨e, h0⟩ | ⟨g', cap', cur', e, _⟩
      · exact ⟨none, 0, by rw [e, show k = 0 by omega]⟩
      · exact ⟨_, cap', by rw [e, Nat.zero_add]⟩
    obtain ⟨A1, c1, rfl⟩ := hs1
    have hB1 := hB.upd hu1 (fun h => h)
    simp only [Nat.zero_add, List.nil_append] at ho1
    obtain ⟨v2, w2, hr2, ho2, hg2, hn2, hb2⟩ := run_append_own_at (P := Try.prog) w1 w.heap.size 57 57 3 i0 _ 1 8 Try.underlying57 hi hz0 hz1 hz2 rfl (by decide) (.slice A1 k c1) k _ ho1
      ⟨g, if cap = k + 1 then 0 else k + 1, none⟩ (L.length - (k + 1)) (cap - (k + 1)) ((L.drop (k + 1)).map (Value.int .i64)) (by simp) (fun j u hj => by
        have hjl : j < L.length - (k + 1) := by simpa using (List.getElem?_eq_some_iff.1 hj).1
        rw [if_neg (by omega), show ((⟨g, k + 1, none⟩ : Addr).add j) = ⟨g, k + 1 + j, none⟩ by unfold Addr.add; split <;> simp_all, hB1.cell]
        refine hcell _ u ?_
        rw [List.map_drop, List.getElem?_drop] at hj
        exact hj) (fun u hu => by
        obtain ⟨x, _, rfl⟩ := List.mem_map.1 hu
        rfl) (by unfold maxLen; omega) (by omega) hu1.size
    have hu2 : Upd (fun _ => False) w w2 := hu1.grown hg2 (fun b hb => by
      rcases ho1.2 with ⟨e, _⟩ | ⟨g', cap', cur', e, hge, _⟩
      · rw [e] at hb
        cases hb
      · rw [e] at hb
        cases hb
        exact .inl hge)
    have hs2 : ∃ A2 n2 c2, v2 = .slice A2 n2 c2 := by
      rcases ho2.2 with ⟨e, h0⟩ | ⟨g', cap', cur', e, _⟩
      · exact ⟨none, 0, 0, e⟩
      · exact ⟨_, _, cap', e⟩
    obtain ⟨A2, n2, c2, rfl⟩ := hs2
    refine (cut_core g L.length cap k k c1 n2 c2 A1 A2 w w1 w2 hk hn (by unfold maxLen at hcm; omega) hr1 hr2).mono ?_
    rintro e w' ⟨rfl, rfl⟩
    refine ⟨_, rfl, ?_, hu2⟩
    have e1 : (L.eraseIdx k).map (Value.int .i64) = (L.take k).map (Value.int .i64) ++ (L.drop (k + 1)).map (Value.int .i64) := by
      rw [List.eraseIdx_eq_take_drop_succ, List.map_append]
    have e2 : (L.eraseIdx k).length = k + (L.length - (k + 1)) := by rw [List.length_eraseIdx, if_pos hk]; omega
    unfold LineV
    rw [e1, e2]
    exact ho2
end Go.Proofs.Ytceihchkedjgbaa
