/- slices.SortFunc at this program's objects: the laying of its contract (printed by the kit's lay-plain.mjs), and the order of objects. -/
import Derived.Test.YtjjgdacjfmiamaaPoolW7
import Derived.Shelf.SlGeneric
import Derived.Shelf.SlSortCmp.WholeK
import Derived.Ground.SlsfProg
namespace Go.Proofs.Ytjjgdacjfmiamaa
open Go.Shelf
def sortOb_ren : Go.Shelf.Ren := ⟨fun | 6 => 14 | 15 => 18 | 14 => 17 | 28 => 28 | 29 => 29 | 20 => 20 | 21 => 21 | 22 => 22 | 23 => 23 | 24 => 24 | 25 => 25 | 26 => 26 | 27 => 27 | 46 => 30 | 47 => 31 | 48 => 32 | 49 => 33 | 50 => 34 | 57 => 35 | n => n, fun | 22 => 30 | 24 => 28 | 25 => 52 | 3 => 3 | 39 => 56 | 0 => 0 | 53 => 66 | 55 => 68 | 4 => 4 | 46 => 59 | 45 => 58 | 50 => 63 | 5 => 5 | 9 => 9 | 66 => 69 | 70 => 73 | 76 => 75 | 77 => 40 | n => n, fun | n => n⟩
theorem sortOb : Go.Proofs.SlLaysF0.n6 Try.prog sortOb_ren := {
  mixed := by kernel_rfl
  f6 := ⟨Try.f14.name, by decide, Try.func14.trans (congrArg some (by kernel_rfl))⟩
  f14 := ⟨Try.f17.name, by decide, Try.func17.trans (congrArg some (by kernel_rfl))⟩
  f15 := Try.func18.trans (congrArg some (by kernel_rfl))
  f20 := ⟨Try.f20.name, by decide, Try.func20.trans (congrArg some (by kernel_rfl))⟩
  f21 := ⟨Try.f21.name, by decide, Try.func21.trans (congrArg some (by kernel_rfl))⟩
  f22 := ⟨Try.f22.name, by decide, Try.func22.trans (congrArg some (by kernel_rfl))⟩
  f23 := ⟨Try.f23.name, by decide, Try.func23.trans (congrArg some (by kernel_rfl))⟩
  f24 := ⟨Try.f24.name, by decide, Try.func24.trans (congrArg some (by kernel_rfl))⟩
  f25 := ⟨Try.f25.name, by decide, Try.func25.trans (congrArg some (by kernel_rfl))⟩
  f26 := ⟨Try.f26.name, by decide, Try.func26.trans (congrArg some (by kernel_rfl))⟩
  f27 := ⟨Try.f27.name, by decide, Try.func27.trans (congrArg some (by kernel_rfl))⟩
  f28 := Try.func28.trans (congrArg some (by kernel_rfl))
  f29 := Try.func29.trans (congrArg some (by kernel_rfl))
  f46 := ⟨Try.f30.name, by decide, Try.func30.trans (congrArg some (by kernel_rfl))⟩
  f47 := Try.func31.trans (congrArg some (by kernel_rfl))
  f48 := Try.func32.trans (congrArg some (by kernel_rfl))
  f49 := ⟨Try.f33.name, by decide, Try.func33.trans (congrArg some (by kernel_rfl))⟩
  f50 := ⟨Try.f34.name, by decide, Try.func34.trans (congrArg some (by kernel_rfl))⟩
  f57 := ⟨Try.f35.name, by decide, Try.func35.trans (congrArg some (by kernel_rfl))⟩
  t0 := Try.underlying0
  a0 := Try.isAgg0
  z0 := Try.sizeOf0
  v0 := Try.zeroValue0
  t3 := Try.underlying3
  a3 := Try.isAgg3
  z3 := Try.sizeOf3
  v3 := Try.zeroValue3
  t4 := Try.underlying4
  a4 := Try.isAgg4
  z4 := Try.sizeOf4
  v4 := Try.zeroValue4
  t5 := Try.underlying5
  a5 := Try.isAgg5
  z5 := Try.sizeOf5
  v5 := Try.zeroValue5
  t9 := Try.underlying9
  a9 := Try.isAgg9
  z9 := Try.sizeOf9
  v9 := Try.zeroValue9
  t22 := Try.underlying30
  a22 := Try.isAgg30
  z22 := Try.sizeOf30
  v22 := Try.zeroValue30
  t25 := Try.underlying52
  a25 := Try.isAgg52
  z25 := Try.sizeOf52
  v25 := Try.zeroValue52
  t39 := Try.underlying56
  a39 := Try.isAgg56
  z39 := Try.sizeOf56
  v39 := Try.zeroValue56
  t45 := Try.underlying58
  a45 := Try.isAgg58
  z45 := Try.sizeOf58
  v45 := Try.zeroValue58
  t46 := Try.underlying59
  a46 := Try.isAgg59
  z46 := Try.sizeOf59
  v46 := Try.zeroValue59
  t50 := Try.underlying63
  a50 := Try.isAgg63
  z50 := Try.sizeOf63
  v50 := Try.zeroValue63
  t53 := Try.underlying66
  a53 := Try.isAgg66
  z53 := Try.sizeOf66
  v53 := Try.zeroValue66
  t55 := Try.underlying68
  a55 := Try.isAgg68
  z55 := Try.sizeOf68
  v55 := Try.zeroValue68
  t66 := Try.underlying69
  a66 := Try.isAgg69
  z66 := Try.sizeOf69
  v66 := Try.zeroValue69
  t70 := Try.underlying73
  a70 := Try.isAgg73
  z70 := Try.sizeOf73
  v70 := Try.zeroValue73
  t76 := Try.underlying75
  a76 := Try.isAgg75
  z76 := Try.sizeOf75
  v76 := Try.zeroValue75
  t77 := Try.underlying40
  a77 := Try.isAgg40
  z77 := Try.sizeOf40
  v77 := Try.zeroValue40 }

open Go.RowKit Go.Lib Go.Sort

/-- An object as the order sees it: its kind and its number, small. -/
abbrev SOb := Fin 16 × Fin 65536
instance : Inhabited SOb := ⟨(0, 0)⟩
def encOb (x : SOb) : List Value := [.int .i64 x.1.1, .int .i64 x.2.1]
def cmpOb (x y : SOb) : Int := if x.1.1 = y.1.1 then (x.2.1 : Int) - y.2.1 else (x.1.1 : Int) - y.1.1

set_option maxHeartbeats 1000000 in
theorem closure_ob (x y : SOb) (W : World) : Calls Try.prog 15 #[.agg #[.int .i64 x.1.1, .int .i64 x.2.1], .agg #[.int .i64 y.1.1, .int .i64 y.2.1]] W fun e w' => e = .returned (.int .i64 (cmpOb x y)) ∧ ∃ q os', w' = grow (W.drewN q) os' := by
  obtain ⟨⟨a, ha⟩, ⟨b, hb⟩⟩ := x
  obtain ⟨⟨c, hc⟩, ⟨d, hd⟩⟩ := y
  unfold cmpOb
  simp only
  by_cases h : a = c
  · subst h
    rw [if_pos rfl]
    have hn : ((a : Int) != (a : Int)) = false := by simp
    go_enter Try.func15, Try.ntmps15
    go_wp2_with fail
    go_ret
    exact ⟨rfl, 0, _, by rw [alloc_eq_grow, alloc_eq_grow, grow_grow]; rfl⟩
  · rw [if_neg h]
    have hn : ((a : Int) != (c : Int)) = true := by
      have : (a : Int) ≠ (c : Int) := by omega
      simpa using this
    go_enter Try.func15, Try.ntmps15
    go_wp2_with fail
    go_ret
    exact ⟨rfl, 0, _, by rw [alloc_eq_grow, alloc_eq_grow, grow_grow]; rfl⟩

theorem swo_ob : SWO (ltOf cmpOb) where
  irrefl x := by unfold ltOf cmpOb; simp
  trans x y z h1 h2 := by unfold ltOf cmpOb at *; simp only [decide_eq_true_eq] at *; split at h1 <;> split at h2 <;> split <;> omega
  ntrans x y z h1 h2 := by unfold ltOf cmpOb at *; simp only [decide_eq_false_iff_not] at *; split at h1 <;> split at h2 <;> split <;> omega

theorem sort_ob (blk off cap : Nat) (d : Array SOb) (w : World) (hH : HoldsK encOb 2 w blk off d) (hblk : blk < w.heap.size) (hsz : d.size < 4611686018427387904) :
    Calls Try.prog 14 #[.slice (some ⟨blk, off, none⟩) d.size cap, .func (.func 15) #[] #[]] w fun e w' =>
      e = .returned (.tuple #[]) ∧ ∃ d' n os, PermIn 0 d.size d d' ∧ w' = sortWorldK encOb 2 w blk off n d' os := by
  have eg : ∀ args w, (callFunc 15 args).run Try.prog w = .ok (.enter 15 args) w := enters_of Try.func15 (by kernel_rfl) rfl
  have hcon := AnyQ.slices_SortFunc sortOb 2 Try.isAgg28 Try.sizeOf28 encOb (fun _ => rfl) (fun x v hv => by simp [encOb] at hv; rcases hv with rfl | rfl <;> rfl) cmpOb swo_ob 15 #[] blk off cap d w eg (fun _ _ _ _ x y => closure_ob x y _) hH hblk hsz
  exact hcon.mono fun _ _ ⟨he, d', n, os, hp, _, hw⟩ => ⟨he, d', n, os, hp, hw⟩
end Go.Proofs.Ytjjgdacjfmiamaa
