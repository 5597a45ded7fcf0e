/- Parts of package sched: where a thread's line stands; it leaves it. -/
import Derived.Test.YtceihchkedjgbaaLineOps
import Derived.Deep.QuietTactic
import Derived.BigQuiet
namespace Go.Proofs.Ytceihchkedjgbaa
open Go.RowKit Go.Lib

set_option maxHeartbeats 400000 in
theorem queue_ok (sb eb d p : Nat) (w : World) (hd : d < 8) (hp : p < 8) (h0 : w.cell? ⟨eb, 0, none⟩ = some (.int .i64 d)) (h1 : w.cell? ⟨eb, 1, none⟩ = some (.int .i64 p)) :
    Calls Try.prog 46 #[.pointer (some ⟨sb, 0, none⟩), .pointer (some ⟨eb, 0, none⟩)] w fun e w' => e = .returned (.pointer (some ⟨sb, 4 + d * 8 + p, none⟩)) ∧ ∃ n, w' = w.drewN n := by
  have d1 : (d : Int) < 8 := by omega
  have p1 : (p : Int) < 8 := by omega
  go_enter Try.func46, Try.ntmps46
  go_wp2_with fail
  go_quiet (fail)
  go_wp2
  go_ret
  exact ⟨rfl, _, rfl⟩

set_option maxHeartbeats 400000 in
theorem leave_core (sb eb d p : Nat) (t : Int) (w : World) (hd : d < 8) (hp : p < 8) (h0 : w.cell? ⟨eb, 0, none⟩ = some (.int .i64 d)) (h1 : w.cell? ⟨eb, 1, none⟩ = some (.int .i64 p)) (Q : World → Prop)
    (hdrop : ∀ n, Calls Try.prog 48 #[.pointer (some ⟨sb, 4 + d * 8 + p, none⟩), .func (.func 49) #[] #[.pointer (some ⟨w.heap.size, 0, none⟩)]] ((w.alloc (.cells #[.int .i64 t] 3)).drewN n) fun e w' => e = .returned (.tuple #[]) ∧ Q w') :
    Calls Try.prog 35 #[.pointer (some ⟨sb, 0, none⟩), .int .i64 t, .pointer (some ⟨eb, 0, none⟩)] w fun e w' => e = .returned (.tuple #[]) ∧ Q w' := by
  have k0 : ∀ o, (w.alloc o).cell? ⟨eb, 0, none⟩ = some (.int .i64 d) := fun o => cell?_alloc_some o h0
  have k1 : ∀ o, (w.alloc o).cell? ⟨eb, 1, none⟩ = some (.int .i64 p) := fun o => cell?_alloc_some o h1
  have HQ := Lib.hid (fun o => queue_ok sb eb d p (w.alloc o) hd hp (k0 o) (k1 o))
  have HD := Lib.hid hdrop
  clear hdrop h0 h1 k0 k1 hd hp
  go_enter Try.func35, Try.ntmps35
  go_wp2_with fail
  refine (HQ.out _).mono ?_
  rintro e w1 ⟨rfl, n, rfl⟩
  go_wp2_with fail
  refine (HD.out n).mono ?_
  rintro e w1 ⟨rfl, hq⟩
  have HQ2 := Lib.hid hq
  clear hq
  go_wp2_with fail
  go_end0
  exact ⟨rfl, HQ2.out⟩
end Go.Proofs.Ytceihchkedjgbaa
