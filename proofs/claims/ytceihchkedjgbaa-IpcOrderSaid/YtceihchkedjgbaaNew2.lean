/- sched.New. -/
import Derived.Test.YtceihchkedjgbaaNew1
import Derived.Deep.RegionWith
namespace Go.Proofs.Ytceihchkedjgbaa
open Go.RowKit Go.Lib

theorem make_map (w : World) : (Instr.makeMap 81 none).run Try.prog w = .ok (.map (some w.heap.size)) (w.alloc (.map #[] 0)) := by kernel_rfl

def zcells : Array Value := #[.slice none 0 0, .int .i64 0, .int .i64 0, .map none] ++ (List.replicate 64 (Value.slice none 0 0)).toArray
theorem zero_sched (w : World) : (zeroValue 88).run Try.prog w = .ok (.agg zcells) w := by kernel_rfl
theorem zcells_size : zcells.size = 68 := by rfl

/-- A copy of the turns' cells lies in block b. -/
def Cloned (w : World) (n : Nat) (cs : Array Value) (b : Nat) (w' : World) : Prop := ∃ cur, Blk w' b 39 cur ∧ (∀ i, i < n * 2 → cur[i]? = cs[i]?) ∧ w.heap.size ≤ b ∧ Upd (fun _ => False) w w'
/-- The turns' copy lies in block b, an empty map in block mb; nothing else was written. -/
def Made (w : World) (n : Nat) (cs : Array Value) (b mb : Nat) (w' : World) : Prop := ∃ cur, Blk w' b 39 cur ∧ (∀ i, i < n * 2 → cur[i]? = cs[i]?) ∧ w.heap.size ≤ b ∧ IMap w' mb (fun _ => none) ∧ w.heap.size ≤ mb ∧ Upd (fun _ => False) w w'

theorem Made.first {w w1 w2 : World} {n : Nat} {cs : Array Value} {b : Nat} (hu : Upd (fun _ => False) w w1) (h : Cloned w1 n cs b w2) : Made w n cs b w2.heap.size (w2.alloc (.map #[] 0)) := by
  obtain ⟨cur, a1, a2, a3, a4⟩ := h
  have hu2 : Upd (fun _ => False) w w2 := hu.trans a4 (fun _ _ h => h)
  exact ⟨cur, a1.alloc _, a2, Nat.le_trans hu.size a3, IMap.new w2, hu2.size, hu2.alloc _⟩
theorem Made.second {w w1 w2 : World} {n : Nat} {cs : Array Value} {b : Nat} (hu : Upd (fun _ => False) w w1) (h : Cloned (w1.alloc (.map #[] 0)) n cs b w2) : Made w n cs b w1.heap.size w2 := by
  obtain ⟨cur, a1, a2, a3, a4⟩ := h
  exact ⟨cur, a1, a2, Nat.le_trans hu.size (Nat.le_trans (by rw [World.alloc]; simp only [Array.size_push]; omega) a3), (IMap.new w1).upd a4 (fun h => h), hu.size, (hu.alloc _).trans a4 (fun _ _ h => h)⟩

theorem Made.third {w w1 w2 : World} {n : Nat} {cs : Array Value} {b : Nat} (hu : Upd (fun _ => False) w w1) (h : Cloned (w1.alloc (.map #[] 0)).drew n cs b w2) : Made w n cs b w1.heap.size w2 := by
  obtain ⟨cur, a1, a2, a3, a4⟩ := h
  exact Made.second hu ⟨cur, a1, a2, a3, ⟨a4.os, a4.tape, a4.output, a4.size, a4.block⟩⟩

set_option maxRecDepth 100000 in
set_option maxHeartbeats 4000000 in
theorem new_core (zc : Array Value) (hz : ∀ w : World, (zeroValue 88).run Try.prog w = .ok (.agg zc) w) (hz1 : zc.size = 68) (hz2 : ¬ zc = #[]) (tq n cap : Nat) (cs : Array Value) (d k : Nat → Nat) (w : World) (hn : 0 < n ∧ n ≤ 16) (hB : Blk w tq 39 cs)
    (hc : ∀ i, i < n → cs[i * 2]? = some (.int .i64 (d i)) ∧ cs[i * 2 + 1]? = some (.int .i64 (k i)) ∧ d i < 8 ∧ 0 < k i ∧ k i ≤ 1000) 
    (hk : ∀ w1, Upd (fun _ => False) w w1 → Calls Try.prog 30 #[.slice (some ⟨tq, 0, none⟩) n cap] w1 fun e w' => ∃ b c, e = .returned (.slice (some ⟨b, 0, none⟩) n c) ∧ w'.cell? ⟨tq, 1, none⟩ = some (.int .i64 (k 0)) ∧ Cloned w1 n cs b w') :
    Calls Try.prog 11 #[.slice (some ⟨tq, 0, none⟩) n cap] w fun e w' => ∃ sb b c mb W, e = .returned (.tuple #[.pointer (some ⟨sb, 0, none⟩), .int .i64 0]) ∧ sb = W.heap.size ∧ Made w n cs b mb W ∧
      w' = W.alloc (.cells (((zc.setIfInBounds 0 (.slice (some ⟨b, 0, none⟩) n c)).setIfInBounds 2 (.int .i64 (k 0))).setIfInBounds 3 (.map (some mb))) 88) := by
  have n1 : ¬ ((n : Int) < 1) := by omega
  have n2 : (n : Int) ≤ 16 := by omega
  have HN := Lib.hid hn
  have HC := Lib.hid hc
  have HB := Lib.hid hB
  have HK := Lib.hid hk
  have HZ := Lib.hid hz
  clear hn hc hB hk hz
  go_enter Try.func11, Try.ntmps11
  go_wp2_with fail
  go_loopw [16] (fun vi wr => Upd (fun _ => False) w wr ∧ ∃ i : Nat, i ≤ n ∧ vi = .int .i64 i) (fun vi _ => n - (intOf vi).toNat)
  case atStart => exact ⟨Upd.refl _ _, 0, by omega, rfl⟩
  case round =>
    obtain ⟨hu, i, hi, rfl⟩ := hrel
    rcases Nat.lt_or_ge i n with h | h
    · obtain ⟨a1, a2, a3, a4, a5⟩ := HC.out i h
      have b1 : wr.cell? ⟨tq, i * 2, none⟩ = some (.int .i64 (d i)) := ((HB.out.upd hu (fun h => h)).cell _).trans a1
      have b2 : wr.cell? ⟨tq, i * 2 + 1, none⟩ = some (.int .i64 (k i)) := ((HB.out.upd hu (fun h => h)).cell _).trans a2
      have i1 : (i : Int) < (n : Int) := by omega
      have i2 : (i : Int) < 16 := by omega
      have c1 : ¬ ((d i : Int) < 0) := by omega
      have c2 : ¬ ((8 : Int) ≤ (d i : Int)) := by omega
      have c3 : ¬ ((k i : Int) < 1) := by omega
      have c4 : ¬ ((1000 : Int) < (k i : Int)) := by omega
      have HU := Lib.hid hu
      clear a1 a2 a3 a4 a5 h hi hu
      go_wp2_with fail
      refine ⟨⟨HU.out.alloc _, i + 1, by omega, ?_⟩, ?_⟩
      · simp
      · simp only [intOf]
        omega
    · obtain rfl : i = n := by omega
      obtain ⟨a1, a2, a3, a4, a5⟩ := HC.out 0 HN.out.1
      have b2 : wr.cell? ⟨tq, 1, none⟩ = some (.int .i64 (k 0)) := ((HB.out.upd hu (fun h => h)).cell _).trans a2
      have HU := Lib.hid hu
      clear a1 a2 a3 a4 a5 h hi hu
      go_wp2_with fail
      have hmm := make_map
      have hal : ∀ (w1 : World) (o : Obj), w1.cell? ⟨tq, 1, none⟩ = some (.int .i64 (k 0)) → (w1.alloc o).cell? ⟨tq, 1, none⟩ = some (.int .i64 (k 0)) := fun w1 o h => Lib.cell?_alloc_some o h
      have hzz := HZ.out
      go_region_with (go_at_call 30; refine (HK.out _ ?_).mono ?_; (· first | exact HU.out.drew | exact (HU.out.alloc _).drew | exact HU.out | exact HU.out.alloc _); rintro _ w1 ⟨b, c, rfl, hb, hr⟩; have HR := Lib.hid hr; clear hr)
      all_goals (go_wp2_with fail; go_ret2)
      all_goals refine ⟨_, _, _, _, _, rfl, ?_, ?_, rfl⟩
      all_goals first
        | exact Made.first HU.out.drew HR.out
        | exact Made.third HU.out HR.out
        | (simp only [World.alloc, Array.size_push]; done)
        | rfl
end Go.Proofs.Ytceihchkedjgbaa
