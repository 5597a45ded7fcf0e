/- From the row's list of the two tables to the tables' cells. -/
import Derived.Test.YtiknigdjmbdfgaaDoorRows
import Derived.Test.YtiknigdjmbdfgaaDoorMmuLaw
import Derived.OpenShut
import Derived.Stop.LaidErr
import Derived.Lib.LaidTab
namespace Go.Proofs.YtiknigdjmbdfgaaDoor
open Go.RowKit Go.Lib

theorem cells_of_tab2 {H : Type} {enc : TypeId × Value → H} {P : Program} {w : World} {base : Nat} {sp : Nat → Bool} {held : Bool} {fuel : Nat} {t e i : TypeId} {n m : Nat} {k : IntKind} {cs : List Value} {rows : List (List Int)} {p : List MemPlace}
    (ht : P.underlying t = some (.array n e)) (he : P.underlying e = some (.array m i)) (hi : P.underlying i = some (.int k)) (hci : P.cellsOf i = 1) (hce : P.cellsOf e = m)
    (h : DataW.trod enc P w base sp held fuel t cs = some (.agg (rows.map (tabData k)), p)) (r : Nat) (zs : List Int) (hr : rows[r]? = some zs) (j : Nat) (z : Int) (hz : zs[j]? = some z) : cs[r * m + j]? = some (.int k z) := by
  obtain ⟨xs, mm, rfl, hx, hl, hxl, hel⟩ := DataW.trod_array ht h
  simp only [Prod.mk.injEq, DataW.agg.injEq] at hx
  have h2 : (xs.map (·.1))[r]? = some (tabData k zs) := by rw [← hx.1]; simp [hr]
  simp only [List.getElem?_map, Option.map_eq_some_iff] at h2
  obtain ⟨⟨d, pr⟩, hxr, hd⟩ := h2
  simp only at hd
  subst hd
  have hrn : r < n := by
    rw [← hxl]
    exact (List.getElem?_eq_some_iff.1 hxr).1
  have h3 := hel r hrn
  rw [hxr, hce] at h3
  have h4 := cells_of_tab he hi hci hce h3
  have h5 : ((cs.drop (r * m)).take m)[j]? = some (.int k z) := by rw [h4]; simp [hz]
  rw [List.getElem?_take, List.getElem?_drop] at h5
  split at h5
  · exact h5
  · cases h5

theorem wf_u32 {n : Int} (h : (Lit.int .u32 n).wf = true) : 0 ≤ n ∧ n ≤ 4294967295 := by
  simp [Lit.wf, IntKind.min, IntKind.max, IntKind.signed, IntKind.bits] at h
  omega

theorem tabs_of_laid {W : World} (h : laidMetH Tryd.prog [("vault/mmu.fault", Rows.laid_vault_mmu_fault), ("vault/mmu.need", Rows.laid_vault_mmu_need)] W) : Tabs W := by
  have h1 : laidMet Tryd.prog [("vault/mmu.fault", Rows.laid_vault_mmu_fault), ("vault/mmu.need", Rows.laid_vault_mmu_need)] W := h
  have h2 := laidMet.tail h1
  have hn : TabIs Tryd.prog W "vault/mmu.need" .u32 [89, 83, 215] :=
    tabIs_of_head (rest := []) (g := 1) (t := 59) (e := 23) (by kernel_rfl) (by kernel_rfl) Tryd.underlying59 Tryd.underlying23 (by kernel_rfl) (by kernel_rfl) h2
  obtain ⟨ps, ⟨g', t', cs, fuel, p, q, hg', ht', hvar, hd, _, _⟩, _⟩ := h1
  have hg : Tryd.prog.globalNamed "vault/mmu.fault" = some 0 := by kernel_rfl
  have hty : (Tryd.prog.globals[0]?).map (·.type) = some 58 := by kernel_rfl
  obtain rfl := Option.some.inj (hg.symm.trans hg')
  obtain rfl := Option.some.inj (hty.symm.trans ht')
  have hd' : DataW.trod (fun _ => ()) Tryd.prog W 0 (fun _ => true) false fuel 58 cs.toList = some (.agg ([[12, 1], [13, 5], [15, 7]].map (tabData .i64)), p) := hd
  have hc : ∀ r zs, [[12, 1], [13, 5], [15, (7 : Int)]][r]? = some zs → ∀ (j : Nat) z, zs[j]? = some z → W.cell? ⟨0, r * 2 + j, none⟩ = some (.int .i64 z) := by
    intro r zs hr j z hz
    rw [World.var?_cell hg hvar, ← Array.getElem?_toList]
    exact cells_of_tab2 Tryd.underlying58 Tryd.underlying57 Tryd.underlying3 (by kernel_rfl) (by kernel_rfl) hd' r zs hr j z hz
  have gn : Tryd.prog.globalNamed "vault/mmu.need" = some 1 := by kernel_rfl
  exact ⟨hc 0 _ rfl 0 _ rfl, hc 0 _ rfl 1 _ rfl, hc 1 _ rfl 0 _ rfl, hc 1 _ rfl 1 _ rfl, hc 2 _ rfl 0 _ rfl, hc 2 _ rfl 1 _ rfl, hn.cell gn 0 (by decide), hn.cell gn 1 (by decide), hn.cell gn 2 (by decide)⟩
end Go.Proofs.YtiknigdjmbdfgaaDoor
