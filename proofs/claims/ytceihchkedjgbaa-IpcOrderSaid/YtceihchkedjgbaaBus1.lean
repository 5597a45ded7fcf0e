/- ipc: New, Open, at, gets, told, refused. -/
import Derived.Test.YtceihchkedjgbaaBusRep
import Derived.Deep.RegionWith
namespace Go.Proofs.Ytceihchkedjgbaa
open Go.RowKit Go.Lib

/-- An outcome: what went wrong, with whom, which label, does the caller wait? -/
def oval (err peer : Int) (lab : Nat) (waits : Bool) : Value := .agg #[.int .i64 err, .int .i64 peer, .int .u32 lab, .int .u32 0, .int .u32 0, .int .u32 0, .int .u32 0, .int .u32 0, .bool waits, .bool false, .bool false]
/-- A message of a label alone. -/
def mval (lab : Nat) : Value := .agg #[.int .u32 lab, .int .u32 0, .int .u32 0, .int .u32 0, .int .u32 0, .int .u32 0]

/-- Does the first one want to get? -/
def firstGets : List Wt → Bool
  | [] => false
  | x :: _ => ((x.how : Int) == 4)

theorem field_thr (x : Wt) (w : World) : (Instr.field 110 (.agg #[.int .i64 x.thr, .int .i64 x.how, .int .u32 x.lab, .int .u32 0, .int .u32 0, .int .u32 0, .int .u32 0, .int .u32 0]) 0).run Try.prog w = .ok (.int .i64 x.thr) w := by kernel_rfl
theorem field_how (x : Wt) (w : World) : (Instr.field 110 (.agg #[.int .i64 x.thr, .int .i64 x.how, .int .u32 x.lab, .int .u32 0, .int .u32 0, .int .u32 0, .int .u32 0, .int .u32 0]) 1).run Try.prog w = .ok (.int .i64 x.how) w := by kernel_rfl

set_option maxRecDepth 100000 in
set_option maxHeartbeats 400000 in
theorem at_core (bb pl pm wm : Nat) (t : Nat) (b : Bool) (w : World) (c0 : w.cell? ⟨bb, 0, none⟩ = some (.map (some pm))) (c1 : w.cell? ⟨bb, 1, none⟩ = some (.map (some wm))) (p0 : w.cell? ⟨pl, 0, none⟩ = some (.bool false))
    (hlp : (Instr.lookup 97 (.map (some pm)) (.int .i64 5) false).run Try.prog w = .ok (.pointer (some ⟨pl, 0, none⟩)) w) (z : Int)
    (hlw : (Instr.lookup 98 (.map (some wm)) (.int .i64 t) true).run Try.prog w = .ok (.tuple #[.int .i64 z, .bool b]) w) :
    Calls Try.prog 39 #[.pointer (some ⟨bb, 0, none⟩), .int .i64 5, .bool false, .int .i64 t] w fun e w' => e = .returned (if b then .tuple #[.pointer none, .int .i64 16] else .tuple #[.pointer (some ⟨pl, 0, none⟩), .int .i64 0]) ∧ w = w' := by
  cases b
  · go_enter Try.func39, Try.ntmps39
    go_wp2_with fail
    go_ret2
    exact ⟨rfl, rfl⟩
  · go_enter Try.func39, Try.ntmps39
    go_wp2_with fail
    go_ret2
    exact ⟨rfl, rfl⟩

set_option maxRecDepth 100000 in
set_option maxHeartbeats 400000 in
theorem refused_ok (e : Nat) (w : World) :
    Calls Try.prog 38 #[.int .i64 e] w fun en w' => en = .returned (oval e (-1) 0 false) ∧ Upd (fun _ => False) w w' := by
  go_enter Try.func38, Try.ntmps38
  go_wp2_with fail
  refine bodyPost_ret (results_cell_row rfl _ _ w.heap.size 66 _ (0, 0) _ rfl (heap_alloc_new _ _) Try.underlying66 rfl (by kernel_rfl)) rfl ?_
  exact ⟨rfl, (Upd.refl _ _).alloc _⟩

set_option maxRecDepth 100000 in
set_option maxHeartbeats 400000 in
theorem told_ok (peer how lab : Nat) (w : World) (hh : how = 2 ∨ how = 4) :
    Calls Try.prog 41 #[.int .i64 peer, .int .i64 how, mval lab] w fun en w' => en = .returned (oval 0 peer lab false) ∧ Upd (fun _ => False) w w' := by
  have e3 : ((how : Int) == 3) = false := by
    have : (how : Int) ≠ 3 := by omega
    simpa using this
  have e7 : ((how : Int) == 7) = false := by
    have : (how : Int) ≠ 7 := by omega
    simpa using this
  clear hh
  unfold mval
  go_enter Try.func41, Try.ntmps41
  go_wp2_with fail
  refine bodyPost_ret (results_cell_row rfl _ _ (w.heap.size + 1) 66 _ (0, 0) _ rfl (heap_alloc2_new _ _ _) Try.underlying66 rfl (by kernel_rfl)) rfl ?_
  exact ⟨rfl, ((Upd.refl _ _).alloc _).alloc _⟩

set_option maxRecDepth 100000 in
set_option maxHeartbeats 400000 in
theorem gets_nil (pl cap : Nat) (A : Option Addr) (w : World) (c : w.cell? ⟨pl, 1, none⟩ = some (.slice A 0 cap)) :
    Calls Try.prog 40 #[.pointer (some ⟨pl, 0, none⟩)] w fun en w' => en = .returned (.bool false) ∧ Upd (fun _ => False) w w' := by
  go_enter Try.func40, Try.ntmps40
  go_wp2_with fail
  refine (wline_len pl 1 0 cap A w c).mono ?_
  rintro _ _ ⟨rfl, rfl⟩
  go_wp2_with fail
  go_ret
  exact ⟨rfl, Upd.refl _ _⟩

set_option maxRecDepth 100000 in
set_option maxHeartbeats 400000 in
theorem gets_cons (pl q n cap : Nat) (x : Wt) (w : World) (hn : 0 < n) (c : w.cell? ⟨pl, 1, none⟩ = some (.slice (some ⟨q, 0, none⟩) n cap)) (hx : ∀ j, j < 8 → w.cell? ⟨q, j, none⟩ = x.cells[j]?) :
    Calls Try.prog 40 #[.pointer (some ⟨pl, 0, none⟩)] w fun en w' => en = .returned (.bool ((x.how : Int) == 4)) ∧ Upd (fun _ => False) w w' := by
  have hd : decide ((0 : Int) < (n : Int)) = true := decide_eq_true (by omega)
  have HF := Lib.hid (wline_first pl 1 q n cap x w c hn hx)
  have hn2 : (0 : Int) < (n : Int) := by omega
  clear hx
  go_enter Try.func40, Try.ntmps40
  go_wp2_with fail
  refine (wline_len pl 1 n cap _ w c).mono ?_
  rintro _ _ ⟨rfl, rfl⟩
  go_wp2_with fail
  refine HF.out.mono ?_
  rintro _ w1 ⟨rfl, hu⟩
  have HU := Lib.hid hu
  clear hu
  unfold Wt.val
  have hfh := field_how x w1
  go_wp2_with fail
  go_ret
  exact ⟨rfl, HU.out⟩

section
variable {w : World} {base bb pl : Nat} {F : Nat → Prop} {L : List Wt}

theorem at_ok (h : BRep w base bb pl F L) (t : Nat) :
    Calls Try.prog 39 #[.pointer (some ⟨bb, 0, none⟩), .int .i64 5, .bool false, .int .i64 t] w fun e w' => e = .returned (if t ∈ L.map Wt.thr then .tuple #[.pointer none, .int .i64 16] else .tuple #[.pointer (some ⟨pl, 0, none⟩), .int .i64 0]) ∧ w = w' := by
  obtain ⟨pm, wm, v, c0, c1, p0, _, _, _, _, hp, hw⟩ := h.read
  have h1 := hp w (Upd.refl _ _)
  have h2 := hw w (Upd.refl _ _) t
  by_cases ht : t ∈ L.map Wt.thr
  · rw [if_pos ht] at h2 ⊢
    exact at_core bb pl pm wm t true w c0 c1 p0 h1 5 h2
  · rw [if_neg ht] at h2 ⊢
    exact at_core bb pl pm wm t false w c0 c1 p0 h1 0 h2

theorem gets_ok (h : BRep w base bb pl F L) :
    Calls Try.prog 40 #[.pointer (some ⟨pl, 0, none⟩)] w fun en w' => en = .returned (.bool (firstGets L)) ∧ Upd (fun _ => False) w w' := by
  obtain ⟨pm, wm, v, _, _, _, c1, _, hL, _⟩ := h.read
  cases L with
  | nil =>
    obtain ⟨A, cap, rfl, _⟩ := hL.shape
    exact gets_nil pl cap A w c1
  | cons x rest =>
    obtain ⟨q, cap, rfl, hx⟩ := hL.cell 0 (by simp)
    exact gets_cons pl q _ cap x w (by simp) c1 (fun j hj => by have := hx j hj; rw [Nat.zero_mul, Nat.zero_add] at this; exact this)
end
end Go.Proofs.Ytceihchkedjgbaa
