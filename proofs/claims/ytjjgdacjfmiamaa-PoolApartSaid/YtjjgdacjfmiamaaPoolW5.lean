/- pool: New, Add of the first untyped. -/
import Derived.Test.YtjjgdacjfmiamaaPoolW4
namespace Go.Proofs.Ytjjgdacjfmiamaa
open Go.RowKit Go.Lib

theorem make_pages (w : World) : (Instr.makeSlice 30 (.int .i64 64) (.int .i64 64)).run Try.prog w = .ok (.slice (some ⟨w.heap.size, 0, none⟩) 64 64) (w.alloc (.cells (Array.replicate 128 (.int .i64 0)) 28)) := by kernel_rfl
theorem make_regs (w : World) : (Instr.makeMap 44 none).run Try.prog w = .ok (.map (some w.heap.size)) (w.alloc (.map #[] 0)) := by kernel_rfl
theorem pages0 : Array.replicate 128 (Value.int .i64 0) = pageCells (fun _ => 0) := by
  apply Array.ext_getElem?
  intro i
  by_cases h : i < 128
  · rw [pageCells_get _ h, Array.getElem?_replicate, if_pos h]
    unfold pageCell numK
    simp
  · rw [Array.getElem?_eq_none (by simp; omega), Array.getElem?_eq_none (by rw [pageCells_size]; omega)]

set_option maxRecDepth 100000 in
set_option maxHeartbeats 400000 in
theorem poolNew_ok (w : World) :
    Calls Try.prog 4 #[.int .i64 64] w fun e w' => e = .returned (.tuple #[.pointer (some ⟨w.heap.size + 2, 0, none⟩), .int .i64 0]) ∧
      w' = ((w.alloc (.map #[] 0)).alloc (.cells (Array.replicate 128 (.int .i64 0)) 28)).alloc (.cells #[.map (some w.heap.size), .slice (some ⟨w.heap.size + 1, 0, none⟩) 64 64] 46) := by
  have h1 := make_regs
  have h2 := make_pages
  generalize Array.replicate 128 (Value.int .i64 0) = cs at h2 ⊢
  go_enter Try.func4, Try.ntmps4
  go_wp2_with fail
  go_ret2
  exact ⟨rfl, rfl⟩

theorem split_whole (w : World) : Calls Try.prog 13 #[.int .i64 1312] w fun e w' => e = .returned (.tuple #[.int .i64 32, .int .i64 5]) ∧ w = w' := split_ok 1312 w (by omega)

/-- A new Pool's first untyped. -/
def reg0 (rb c : Nat) : Reg := ⟨1312, 32, 5, 0, rb, c⟩

set_option maxRecDepth 100000 in
set_option maxHeartbeats 1600000 in
theorem add_ok (w : World) (pb mb gb c : Nat) (hb : Blk w pb 46 #[.map (some mb), .slice (some ⟨gb, 0, none⟩) 64 64]) (hg : Blk w gb 28 (pageCells (fun _ => 0))) (hm : MapAt w mb [] c) :
    Calls Try.prog 5 #[.pointer (some ⟨pb, 0, none⟩), obV 1 1312] w fun e w' => e = .returned (.int .i64 0) ∧ ∃ rb, w.heap.size ≤ rb ∧ Blk w' rb 50 (regCells (reg0 rb c)) ∧ MapAt w' mb [entR (reg0 rb c)] (c + 1) ∧ Upd (fun i => i = mb) w w' := by
  obtain ⟨v, hv⟩ : ∃ v : World, v = w.alloc (obO 1 1312) := ⟨_, rfl⟩
  have hu : Upd (fun _ => False) w v := by rw [hv]; exact (Upd.refl _ _).alloc _
  have hob : Blk v w.heap.size 28 #[.int .i64 1, .int .i64 1312] := by rw [hv]; exact Blk.new w _ _
  have hsz : v.heap.size = w.heap.size + 1 := by rw [hv, World.alloc]; simp only [Array.size_push]
  have HV := Lib.hid (show v = w.alloc (.cells #[.int .i64 1, .int .i64 1312] 28) from hv)
  clear hv
  have b0 : v.cell? ⟨w.heap.size, 0, none⟩ = some (.int .i64 1) := hob.cell 0
  have b1 : v.cell? ⟨w.heap.size, 1, none⟩ = some (.int .i64 1312) := hob.cell 1
  have p1 : v.cell? ⟨pb, 1, none⟩ = some (.slice (some ⟨gb, 0, none⟩) 64 64) := (hb.upd hu (fun h => h)).cell 1
  have HB := Lib.hid (hb.upd hu (fun h => h))
  have HG := Lib.hid (hg.upd hu (fun h => h))
  have HM := Lib.hid (hm.upd hu (fun h => h))
  have HO := Lib.hid hob
  have HU := Lib.hid hu
  have HZ := Lib.hid hsz
  clear hb hg hm hob hu hsz
  unfold obV
  go_enter Try.func5, Try.ntmps5
  go_wp2_with fail
  rw [← HV.out]
  go_wp2_with fail
  refine (split_whole _).mono ?_
  rintro _ _ ⟨rfl, rfl⟩
  go_wp2_with fail
  go_loopw [65] (fun vi wr => Upd (fun _ => False) v wr ∧ ∃ k : Nat, k ≤ 32 ∧ vi = .int .i64 k) (fun i _ => 32 - (intOf i).toNat)
  case atStart => exact ⟨Upd.refl _ _, 0, by omega, rfl⟩
  case round =>
    obtain ⟨hu, k, hk, rfl⟩ := hrel
    have HU1 := Lib.hid hu
    have hbr := HB.out.upd hu (fun h => h)
    have c := page_cell (HG.out.upd hu (fun h => h)) (i := 32 + k)
    have hgl := HG.out.lt
    rcases Nat.lt_or_ge k 32 with hlt | hge
    · obtain ⟨c0, c1⟩ := c (by omega)
      rw [Nat.add_mul] at c0 c1
      clear hu hbr c
      unfold numK at c1
      simp only [Nat.reduceMul, if_true] at c0 c1
      go_wp2_with fail
      go_roundw
      case rel => exact ⟨HU1.out.alloc _, k + 1, by omega, by go_num⟩
      case measure => simp [intOf]; omega
    · obtain rfl : k = 32 := by omega
      obtain ⟨wo, rfl⟩ : ∃ wo : World, wo = wr := ⟨_, rfl⟩
      have p0 : wo.cell? ⟨pb, 0, none⟩ = some (.map (some mb)) := hbr.cell 0
      have hm := HM.out.upd hu (fun h => h)
      obtain ⟨w2, hrg, hit, hu2, hsz⟩ := run_range_at (P := Try.prog) hm Try.underlying44 (fun e he => by cases he)
      have HIT := Lib.hid hit
      have HM2 := Lib.hid (hm.upd hu2 (fun h => h))
      have HU2 := Lib.hid (hu.trans hu2 (fun _ _ h => h))
      have HB2 := Lib.hid (hbr.upd hu2 (fun h => h))
      clear c hm hit hu2 hsz hu hbr
      go_wp2_with fail
      go_loopw [] (fun wr => w2 = wr) (fun _ => 0)
      case atStart => exact rfl
      case round =>
        subst hrel
        rcases run_next_int (P := Try.prog) HM2.out HIT.out List.nodup_nil 0 with ⟨_, hrun⟩ | ⟨e, he, _⟩
        · have b0 : w2.cell? ⟨w.heap.size, 0, none⟩ = some (.int .i64 1) := (HO.out.upd HU2.out (fun h => h)).cell 0
          have b1 : w2.cell? ⟨w.heap.size, 1, none⟩ = some (.int .i64 1312) := (HO.out.upd HU2.out (fun h => h)).cell 1
          have p0 : w2.cell? ⟨pb, 0, none⟩ = some (.map (some mb)) := HB2.out.cell 0
          have hux : Upd (fun _ => False) w2 (w2.alloc (.cells #[.int .i64 32, .int .i64 5, .int .i64 0] 50)).drew := ((Upd.refl _ _).alloc _).drew
          have hm3 := HM2.out.upd hux (fun h => h)
          have hmu := run_mapUpdate_new (P := Try.prog) (k := 1312) hm3 Try.underlying44 Try.underlying3 (.pointer (some ⟨w2.heap.size, 0, none⟩)) rfl
          have HMU := Lib.hid hmu
          have HM3 := Lib.hid hm3
          have HUX := Lib.hid hux
          clear hmu hm3 hux
          go_wp2_with fail
          have hmu := HMU.out
          have l1 : w.heap.size < w2.heap.size := (HO.out.upd HU2.out (fun h => h)).lt
          have l2 : pb < w2.heap.size := HB2.out.lt
          go_region
          all_goals
            go_wp2_with fail
            go_ret
            refine ⟨rfl, w2.heap.size, Nat.le_trans HU.out.size HU2.out.size, ?_, putObj_same HM3.out, ?_⟩
            · exact ((Blk.new w2 50 _).drew).putObj (by have := HM2.out.lt; omega) _
            · exact ((HU.out.trans (HU2.out.trans HUX.out (fun _ _ h => h)) (fun _ _ h => h)).mono (fun _ _ h => h.elim)).trans ((Upd.refl (fun i => i = mb) _).putObj (.inr rfl) _) (fun _ _ h => h)
        · cases he
end Go.Proofs.Ytjjgdacjfmiamaa
