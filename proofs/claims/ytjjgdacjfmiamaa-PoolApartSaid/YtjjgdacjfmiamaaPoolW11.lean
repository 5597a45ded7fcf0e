/- pool: Give of pages' objects (no untypeds). -/
import Derived.Test.YtjjgdacjfmiamaaPoolW10
namespace Go.Proofs.Ytjjgdacjfmiamaa
open Go.RowKit Go.Lib

section
variable {w : World} {base pb mb gb : Nat} {K : Nat → Nat} {E : List Reg}

set_option maxRecDepth 100000 in
set_option maxHeartbeats 8000000 in
theorem give_page1 (h : PRep w base pb mb gb K E) {r : Reg} (hr : r ∈ E) (kd cnt : Nat) (hk : 2 ≤ kd) (hk8 : kd ≤ 8) (hc : 1 ≤ cnt) (hc2 : cnt ≤ 32) (hcl : clearB K E r = false) (hro : 0 < r.ord) :
    Calls Try.prog 10 #[.pointer (some ⟨pb, 0, none⟩), .int .i64 r.key, .int .i64 kd, .int .i64 0, .int .i64 cnt] w fun e w' =>
      (2 ^ r.ord < mk0 K E r + cnt ∧ e = .returned (.tuple #[.slice none 0 0, .int .i64 14]) ∧ Upd (fun _ => False) w w') ∨
      (mk0 K E r + cnt ≤ 2 ^ r.ord ∧ ∃ v K' E', e = .returned (.tuple #[v, .int .i64 0]) ∧ IntV w' w.heap.size v (nums 0 (r.base + mk0 K E r) 1 cnt) ∧ PStep w w' base pb mb gb E K' E' ∧ E'.length ≤ E.length + cnt) := by
  have p0 : w.cell? ⟨pb, 0, none⟩ = some (.map (some mb)) := h.pool.cell 0
  have r2 : w.cell? ⟨r.blk, 2, none⟩ = some (.int .i64 r.mark) := (h.reg r hr).cell 2
  have hl := h.look_yes hr
  have HC := Lib.hid (clear_ok h hr)
  rw [hcl] at HC
  have hm0 : mk0 K E r = r.mark := by unfold mk0; rw [hcl]; rfl
  have HM0 := Lib.hid hm0
  have H := Lib.hid h
  have HR := Lib.hid hr
  have hok := h.ok r hr
  have ho := hok.ord
  have ht := hok.top
  have hmk := hok.mark
  obtain ⟨N, hN⟩ : ∃ N, N = 2 ^ r.ord := ⟨_, rfl⟩
  have hp : (2 : Int) ^ r.ord = (N : Int) := by rw [hN]; norm_cast
  rw [← hN] at ht hmk
  have hro' : ¬ r.ord = 0 := by omega
  have HN := Lib.hid hN
  have hdk : ((kd : Int) == 1) = false := by
    have : (kd : Int) ≠ 1 := by omega
    simpa using this
  have hdk' : ((kd : Int) != 1) = true := by
    have : (kd : Int) ≠ 1 := by omega
    simpa using this
  have g1 : decide ((kd : Int) < 1) = false := decide_eq_false (by omega)
  have g2 : decide ((8 : Int) < (kd : Int)) = false := decide_eq_false (by omega)
  have g3 : decide ((cnt : Int) < 1) = false := decide_eq_false (by omega)
  have g4 : decide ((64 : Int) < (cnt : Int)) = false := decide_eq_false (by omega)
  clear h hr hok hN hcl hm0
  go_enter Try.func10, Try.ntmps10
  go_wp2_with fail
  refine HC.out.mono ?_
  rintro _ w1 ⟨rfl, hu1⟩
  have HU1 := Lib.hid hu1
  have r1 : w1.cell? ⟨r.blk, 1, none⟩ = some (.int .i64 r.ord) := ((H.out.reg r HR.out).upd hu1 (fun h => h)).cell 1
  have HS1 := Lib.hid (H.out.same hu1)
  clear p0 r2 hl HC hu1
  by_cases hroom : N < r.mark + cnt
  · have hd : decide ((N : Int) < (r.mark : Int) + (cnt : Int)) = true := decide_eq_true (by omega)
    go_wp2_with fail
    go_ret2
    exact .inl ⟨by rw [HM0.out, ← HN.out]; exact hroom, rfl, HU1.out⟩
  · have hd : decide ((N : Int) < (r.mark : Int) + (cnt : Int)) = false := decide_eq_false (by omega)
    have hroom' : r.mark + cnt ≤ N := by omega
    clear hroom
    go_wp2_with fail
    go_loopw [13, 15, 96] (fun vm vl vi wr => ∃ (j : Nat) (K' : Nat → Nat), j ≤ cnt ∧ vi = .int .i64 j ∧ vm = .int .i64 (r.mark + j : Nat) ∧ IntV wr w.heap.size vl (nums 0 (r.base + r.mark) 1 j) ∧ PStep w wr base pb mb gb E K' E) (fun _ _ i _ => cnt - (intOf i).toNat)
    case atStart => exact ⟨0, K, by omega, rfl, by first | rfl | go_num, IntV.nil _ _, HS1.out⟩
    case round =>
      obtain ⟨j, K', hj, rfl, hvm, hv, hs⟩ := hrel
      obtain ⟨m, hm⟩ : ∃ m, m = r.mark + j := ⟨_, rfl⟩
      rw [← hm] at hvm
      subst hvm
      have hrep := hs.rep
      have HS := Lib.hid hs
      have HV := Lib.hid hv
      have HM := Lib.hid hm
      obtain ⟨A0, cap0, rfl, _⟩ := hv.shape
      rcases Nat.lt_or_ge j cnt with hlt | hge
      · obtain ⟨P, hP⟩ : ∃ P, P = r.base + m := ⟨_, rfl⟩
        have hP64 : P < 64 := by omega
        have eP : (r.base : Int) + (m : Int) = (P : Int) := by omega
        have HP := Lib.hid hP
        obtain ⟨v, hv0⟩ : ∃ v : World, v = wr.alloc (.cells #[.int .i64 kd, .int .i64 P] 28) := ⟨_, rfl⟩
        have huv : Upd (fun _ => False) wr v := by rw [hv0]; exact (Upd.refl _ _).alloc _
        have hob : Blk v wr.heap.size 28 #[.int .i64 kd, .int .i64 P] := by rw [hv0]; exact Blk.new wr _ _
        have HV0 := Lib.hid hv0
        have r0 : wr.cell? ⟨r.blk, 0, none⟩ = some (.int .i64 r.base) := (hrep.reg r HR.out).cell 0
        have p1 : v.cell? ⟨pb, 1, none⟩ = some (.slice (some ⟨gb, 0, none⟩) 64 64) := (hrep.pool.upd huv (fun h => h)).cell 1
        have b0 : v.cell? ⟨wr.heap.size, 0, none⟩ = some (.int .i64 kd) := hob.cell 0
        have b1 : v.cell? ⟨wr.heap.size, 1, none⟩ = some (.int .i64 P) := hob.cell 1
        have hpg := hrep.page.upd huv (fun h => h)
        obtain ⟨c0, c1⟩ := page_cell hpg hP64
        have f0 : v.frozen? ⟨gb, P * 2, none⟩ = false := hpg.frozen _
        have f1 : v.frozen? ⟨gb, P * 2 + 1, none⟩ = false := hpg.frozen _
        have hst := hrep.setPage
        have hs1 := ((hrep.same huv).trans ((hrep.grow huv (fun _ _ h => h)).setPage P kd (.inr ⟨hk, hk8⟩))).behind ((Upd.refl (fun _ => False) _).drew)
        rw [if_neg (show ¬ kd = 0 by omega), show 2 * P = P * 2 by omega] at hs1
        obtain ⟨v3, hv3⟩ : ∃ v3 : World, v3 = ((v.setCell ⟨gb, P * 2, none⟩ (.int .i64 kd)).setCell ⟨gb, P * 2 + 1, none⟩ (.int .i64 P)).drew := ⟨_, rfl⟩
        rw [← hv3] at hs1
        have hv' := hs1.ints hrep hv
        have hob3 : Blk v3 wr.heap.size 28 #[.int .i64 kd, .int .i64 P] := by
          have hne : wr.heap.size ≠ gb := by have := hrep.page.lt; omega
          rw [hv3]
          exact ((hob.far hne _).far hne _).drew
        have k1 : v3.cell? ⟨wr.heap.size, 1, none⟩ = some (.int .i64 P) := hob3.cell 1
        obtain ⟨A', n', c', w5, hap, hv5, hu5⟩ := hv'.app (P : Int) (Nat.le_trans hs.upd.size hs1.upd.size) (by rw [nums_len]; omega)
        have hs5 := (hs.trans hs1).aside hu5 (fun i hi hg => by
          obtain ⟨_, cs, hb⟩ := hv'.blk hg
          exact hs1.rep.not_own hb hi) (fun i hg => (hv'.blk hg).1)
        have hn5 : nums 0 (r.base + r.mark) 1 j ++ [(P : Int)] = nums 0 (r.base + r.mark) 1 (j + 1) := by
          rw [nums_succ]
          congr 2
          omega
        rw [hn5] at hv5
        have HA := Lib.hid hap
        have HV5 := Lib.hid hv5
        have HS5 := Lib.hid hs5
        have HV3 := Lib.hid hv3
        have hgl := hrep.page.lt
        generalize K' P = kk at c0
        generalize numK K' P = kn at c1
        clear hs hv hm hrep hP hv0 huv hob hpg hst hs1 hv3 hv' hob3 hap hv5 hu5 hs5 hn5
        go_wp2_with fail
        rw [← HV0.out]
        go_region
        all_goals
          rw [← HV3.out]
          go_wp2_with (at_builtin; refine Lib.wpList_append_run _ rfl _ _ _ _ rfl _ _ rfl rfl _ _ HA.out ?_)
          go_roundw
          case rel => exact ⟨j + 1, _, by omega, by go_num, by rw [HM.out]; go_num, HV5.out, HS5.out⟩
          case measure => simp [intOf]; omega
      · obtain rfl : cnt = j := by omega
        have q2 : wr.cell? ⟨r.blk, 2, none⟩ = some (.int .i64 r.mark) := (hrep.reg r HR.out).cell 2
        have q3 : wr.frozen? ⟨r.blk, 2, none⟩ = false := (hrep.reg r HR.out).frozen 2
        have hs1 := hrep.setMark HR.out m (by rw [← HN.out]; omega)
        have hv' := hs1.ints hrep hv
        have HS1 := Lib.hid (hs.trans hs1)
        have HV' := Lib.hid hv'
        clear hs hv hm hrep hs1 hv'
        go_wp2_with fail
        go_ret2
        refine .inr ⟨by rw [HM0.out, ← HN.out]; omega, _, _, _, rfl, by rw [HM0.out]; exact HV'.out, HS1.out, by unfold setMark; simp⟩

set_option maxRecDepth 100000 in
set_option maxHeartbeats 8000000 in
theorem give_page2 (h : PRep w base pb mb gb K E) {r : Reg} (hr : r ∈ E) (kd cnt : Nat) (hk : 2 ≤ kd) (hk8 : kd ≤ 8) (hc : 1 ≤ cnt) (hc2 : cnt ≤ 32) (hcl : clearB K E r = true) (hro : 0 < r.ord) :
    Calls Try.prog 10 #[.pointer (some ⟨pb, 0, none⟩), .int .i64 r.key, .int .i64 kd, .int .i64 0, .int .i64 cnt] w fun e w' =>
      (2 ^ r.ord < mk0 K E r + cnt ∧ e = .returned (.tuple #[.slice none 0 0, .int .i64 14]) ∧ Upd (fun _ => False) w w') ∨
      (mk0 K E r + cnt ≤ 2 ^ r.ord ∧ ∃ v K' E', e = .returned (.tuple #[v, .int .i64 0]) ∧ IntV w' w.heap.size v (nums 0 (r.base + mk0 K E r) 1 cnt) ∧ PStep w w' base pb mb gb E K' E' ∧ E'.length ≤ E.length + cnt) := by
  have p0 : w.cell? ⟨pb, 0, none⟩ = some (.map (some mb)) := h.pool.cell 0
  have r2 : w.cell? ⟨r.blk, 2, none⟩ = some (.int .i64 r.mark) := (h.reg r hr).cell 2
  have hl := h.look_yes hr
  have HC := Lib.hid (clear_ok h hr)
  rw [hcl] at HC
  have hm0 : mk0 K E r = 0 := by unfold mk0; rw [hcl]; rfl
  have HM0 := Lib.hid hm0
  have H := Lib.hid h
  have HR := Lib.hid hr
  have hok := h.ok r hr
  have ho := hok.ord
  have ht := hok.top
  have hmk := hok.mark
  obtain ⟨N, hN⟩ : ∃ N, N = 2 ^ r.ord := ⟨_, rfl⟩
  have hp : (2 : Int) ^ r.ord = (N : Int) := by rw [hN]; norm_cast
  rw [← hN] at ht hmk
  have hro' : ¬ r.ord = 0 := by omega
  have HN := Lib.hid hN
  have hdk : ((kd : Int) == 1) = false := by
    have : (kd : Int) ≠ 1 := by omega
    simpa using this
  have hdk' : ((kd : Int) != 1) = true := by
    have : (kd : Int) ≠ 1 := by omega
    simpa using this
  have g1 : decide ((kd : Int) < 1) = false := decide_eq_false (by omega)
  have g2 : decide ((8 : Int) < (kd : Int)) = false := decide_eq_false (by omega)
  have g3 : decide ((cnt : Int) < 1) = false := decide_eq_false (by omega)
  have g4 : decide ((64 : Int) < (cnt : Int)) = false := decide_eq_false (by omega)
  clear h hr hok hN hcl hm0
  go_enter Try.func10, Try.ntmps10
  go_wp2_with fail
  refine HC.out.mono ?_
  rintro _ w1 ⟨rfl, hu1⟩
  have HU1 := Lib.hid hu1
  have r1 : w1.cell? ⟨r.blk, 1, none⟩ = some (.int .i64 r.ord) := ((H.out.reg r HR.out).upd hu1 (fun h => h)).cell 1
  have HS1 := Lib.hid (H.out.same hu1)
  clear p0 r2 hl HC hu1
  by_cases hroom : N < 0 + cnt
  · have hd : decide (N < cnt) = true := decide_eq_true (by omega)
    go_wp2_with fail
    go_ret2
    exact .inl ⟨by rw [HM0.out, ← HN.out]; exact hroom, rfl, HU1.out⟩
  · have hd : decide (N < cnt) = false := decide_eq_false (by omega)
    have hroom' : 0 + cnt ≤ N := by omega
    clear hroom
    go_wp2_with fail
    go_loopw [13, 15, 96] (fun vm vl vi wr => ∃ (j : Nat) (K' : Nat → Nat), j ≤ cnt ∧ vi = .int .i64 j ∧ vm = .int .i64 (0 + j : Nat) ∧ IntV wr w.heap.size vl (nums 0 (r.base + 0) 1 j) ∧ PStep w wr base pb mb gb E K' E) (fun _ _ i _ => cnt - (intOf i).toNat)
    case atStart => exact ⟨0, K, by omega, rfl, by first | rfl | go_num, IntV.nil _ _, HS1.out⟩
    case round =>
      obtain ⟨j, K', hj, rfl, hvm, hv, hs⟩ := hrel
      obtain ⟨m, hm⟩ : ∃ m, m = 0 + j := ⟨_, rfl⟩
      rw [← hm] at hvm
      subst hvm
      have hrep := hs.rep
      have HS := Lib.hid hs
      have HV := Lib.hid hv
      have HM := Lib.hid hm
      obtain ⟨A0, cap0, rfl, _⟩ := hv.shape
      rcases Nat.lt_or_ge j cnt with hlt | hge
      · obtain ⟨P, hP⟩ : ∃ P, P = r.base + m := ⟨_, rfl⟩
        have hP64 : P < 64 := by omega
        have eP : (r.base : Int) + (m : Int) = (P : Int) := by omega
        have HP := Lib.hid hP
        obtain ⟨v, hv0⟩ : ∃ v : World, v = wr.alloc (.cells #[.int .i64 kd, .int .i64 P] 28) := ⟨_, rfl⟩
        have huv : Upd (fun _ => False) wr v := by rw [hv0]; exact (Upd.refl _ _).alloc _
        have hob : Blk v wr.heap.size 28 #[.int .i64 kd, .int .i64 P] := by rw [hv0]; exact Blk.new wr _ _
        have HV0 := Lib.hid hv0
        have r0 : wr.cell? ⟨r.blk, 0, none⟩ = some (.int .i64 r.base) := (hrep.reg r HR.out).cell 0
        have p1 : v.cell? ⟨pb, 1, none⟩ = some (.slice (some ⟨gb, 0, none⟩) 64 64) := (hrep.pool.upd huv (fun h => h)).cell 1
        have b0 : v.cell? ⟨wr.heap.size, 0, none⟩ = some (.int .i64 kd) := hob.cell 0
        have b1 : v.cell? ⟨wr.heap.size, 1, none⟩ = some (.int .i64 P) := hob.cell 1
        have hpg := hrep.page.upd huv (fun h => h)
        obtain ⟨c0, c1⟩ := page_cell hpg hP64
        have f0 : v.frozen? ⟨gb, P * 2, none⟩ = false := hpg.frozen _
        have f1 : v.frozen? ⟨gb, P * 2 + 1, none⟩ = false := hpg.frozen _
        have hst := hrep.setPage
        have hs1 := ((hrep.same huv).trans ((hrep.grow huv (fun _ _ h => h)).setPage P kd (.inr ⟨hk, hk8⟩))).behind ((Upd.refl (fun _ => False) _).drew)
        rw [if_neg (show ¬ kd = 0 by omega), show 2 * P = P * 2 by omega] at hs1
        obtain ⟨v3, hv3⟩ : ∃ v3 : World, v3 = ((v.setCell ⟨gb, P * 2, none⟩ (.int .i64 kd)).setCell ⟨gb, P * 2 + 1, none⟩ (.int .i64 P)).drew := ⟨_, rfl⟩
        rw [← hv3] at hs1
        have hv' := hs1.ints hrep hv
        have hob3 : Blk v3 wr.heap.size 28 #[.int .i64 kd, .int .i64 P] := by
          have hne : wr.heap.size ≠ gb := by have := hrep.page.lt; omega
          rw [hv3]
          exact ((hob.far hne _).far hne _).drew
        have k1 : v3.cell? ⟨wr.heap.size, 1, none⟩ = some (.int .i64 P) := hob3.cell 1
        obtain ⟨A', n', c', w5, hap, hv5, hu5⟩ := hv'.app (P : Int) (Nat.le_trans hs.upd.size hs1.upd.size) (by rw [nums_len]; omega)
        have hs5 := (hs.trans hs1).aside hu5 (fun i hi hg => by
          obtain ⟨_, cs, hb⟩ := hv'.blk hg
          exact hs1.rep.not_own hb hi) (fun i hg => (hv'.blk hg).1)
        have hn5 : nums 0 (r.base + 0) 1 j ++ [(P : Int)] = nums 0 (r.base + 0) 1 (j + 1) := by
          rw [nums_succ]
          congr 2
          omega
        rw [hn5] at hv5
        have HA := Lib.hid hap
        have HV5 := Lib.hid hv5
        have HS5 := Lib.hid hs5
        have HV3 := Lib.hid hv3
        have hgl := hrep.page.lt
        generalize K' P = kk at c0
        generalize numK K' P = kn at c1
        clear hs hv hm hrep hP hv0 huv hob hpg hst hs1 hv3 hv' hob3 hap hv5 hu5 hs5 hn5
        go_wp2_with fail
        rw [← HV0.out]
        go_region
        all_goals
          rw [← HV3.out]
          go_wp2_with (at_builtin; refine Lib.wpList_append_run _ rfl _ _ _ _ rfl _ _ rfl rfl _ _ HA.out ?_)
          go_roundw
          case rel => exact ⟨j + 1, _, by omega, by go_num, by rw [HM.out]; go_num, HV5.out, HS5.out⟩
          case measure => simp [intOf]; omega
      · obtain rfl : cnt = j := by omega
        have q2 : wr.cell? ⟨r.blk, 2, none⟩ = some (.int .i64 r.mark) := (hrep.reg r HR.out).cell 2
        have q3 : wr.frozen? ⟨r.blk, 2, none⟩ = false := (hrep.reg r HR.out).frozen 2
        have hs1 := hrep.setMark HR.out m (by rw [← HN.out]; omega)
        have hv' := hs1.ints hrep hv
        have HS1 := Lib.hid (hs.trans hs1)
        have HV' := Lib.hid hv'
        clear hs hv hm hrep hs1 hv'
        go_wp2_with fail
        go_ret2
        refine .inr ⟨by rw [HM0.out, ← HN.out]; omega, _, _, _, rfl, by rw [HM0.out]; exact HV'.out, HS1.out, by unfold setMark; simp⟩

set_option maxRecDepth 100000 in
set_option maxHeartbeats 8000000 in
theorem give_page3 (h : PRep w base pb mb gb K E) {r : Reg} (hr : r ∈ E) (kd cnt : Nat) (hk : 2 ≤ kd) (hk8 : kd ≤ 8) (hc : 1 ≤ cnt) (hc2 : cnt ≤ 32) (hcl : clearB K E r = false) (hro : r.ord = 0) :
    Calls Try.prog 10 #[.pointer (some ⟨pb, 0, none⟩), .int .i64 r.key, .int .i64 kd, .int .i64 0, .int .i64 cnt] w fun e w' =>
      (2 ^ r.ord < mk0 K E r + cnt ∧ e = .returned (.tuple #[.slice none 0 0, .int .i64 14]) ∧ Upd (fun _ => False) w w') ∨
      (mk0 K E r + cnt ≤ 2 ^ r.ord ∧ ∃ v K' E', e = .returned (.tuple #[v, .int .i64 0]) ∧ IntV w' w.heap.size v (nums 0 (r.base + mk0 K E r) 1 cnt) ∧ PStep w w' base pb mb gb E K' E' ∧ E'.length ≤ E.length + cnt) := by
  have p0 : w.cell? ⟨pb, 0, none⟩ = some (.map (some mb)) := h.pool.cell 0
  have r2 : w.cell? ⟨r.blk, 2, none⟩ = some (.int .i64 r.mark) := (h.reg r hr).cell 2
  have hl := h.look_yes hr
  have HC := Lib.hid (clear_ok h hr)
  rw [hcl] at HC
  have hm0 : mk0 K E r = r.mark := by unfold mk0; rw [hcl]; rfl
  have HM0 := Lib.hid hm0
  have H := Lib.hid h
  have HR := Lib.hid hr
  have hok := h.ok r hr
  have ho := hok.ord
  have ht := hok.top
  have hmk := hok.mark
  obtain ⟨N, hN⟩ : ∃ N, N = 2 ^ r.ord := ⟨_, rfl⟩
  have hp : (2 : Int) ^ r.ord = (N : Int) := by rw [hN]; norm_cast
  rw [← hN] at ht hmk
  have hN1 : N = 1 := by rw [hN, hro]
  have HN := Lib.hid hN
  have hdk : ((kd : Int) == 1) = false := by
    have : (kd : Int) ≠ 1 := by omega
    simpa using this
  have hdk' : ((kd : Int) != 1) = true := by
    have : (kd : Int) ≠ 1 := by omega
    simpa using this
  have g1 : decide ((kd : Int) < 1) = false := decide_eq_false (by omega)
  have g2 : decide ((8 : Int) < (kd : Int)) = false := decide_eq_false (by omega)
  have g3 : decide ((cnt : Int) < 1) = false := decide_eq_false (by omega)
  have g4 : decide ((64 : Int) < (cnt : Int)) = false := decide_eq_false (by omega)
  clear h hr hok hN hcl hm0
  go_enter Try.func10, Try.ntmps10
  go_wp2_with fail
  refine HC.out.mono ?_
  rintro _ w1 ⟨rfl, hu1⟩
  have HU1 := Lib.hid hu1
  have r1 : w1.cell? ⟨r.blk, 1, none⟩ = some (.int .i64 r.ord) := ((H.out.reg r HR.out).upd hu1 (fun h => h)).cell 1
  have HS1 := Lib.hid (H.out.same hu1)
  clear p0 r2 hl HC hu1
  by_cases hroom : N < r.mark + cnt
  · have hd : decide ((1 : Int) < (r.mark : Int) + (cnt : Int)) = true := decide_eq_true (by omega)
    go_wp2_with fail
    go_ret2
    exact .inl ⟨by rw [HM0.out, ← HN.out]; exact hroom, rfl, HU1.out⟩
  · have hd : decide ((1 : Int) < (r.mark : Int) + (cnt : Int)) = false := decide_eq_false (by omega)
    have hroom' : r.mark + cnt ≤ N := by omega
    clear hroom
    go_wp2_with fail
    go_loopw [13, 15, 96] (fun vm vl vi wr => ∃ (j : Nat) (K' : Nat → Nat), j ≤ cnt ∧ vi = .int .i64 j ∧ vm = .int .i64 (r.mark + j : Nat) ∧ IntV wr w.heap.size vl (nums 0 (r.base + r.mark) 1 j) ∧ PStep w wr base pb mb gb E K' E) (fun _ _ i _ => cnt - (intOf i).toNat)
    case atStart => exact ⟨0, K, by omega, rfl, by first | rfl | go_num, IntV.nil _ _, HS1.out⟩
    case round =>
      obtain ⟨j, K', hj, rfl, hvm, hv, hs⟩ := hrel
      obtain ⟨m, hm⟩ : ∃ m, m = r.mark + j := ⟨_, rfl⟩
      rw [← hm] at hvm
      subst hvm
      have hrep := hs.rep
      have HS := Lib.hid hs
      have HV := Lib.hid hv
      have HM := Lib.hid hm
      obtain ⟨A0, cap0, rfl, _⟩ := hv.shape
      rcases Nat.lt_or_ge j cnt with hlt | hge
      · obtain ⟨P, hP⟩ : ∃ P, P = r.base + m := ⟨_, rfl⟩
        have hP64 : P < 64 := by omega
        have eP : (r.base : Int) + (m : Int) = (P : Int) := by omega
        have HP := Lib.hid hP
        obtain ⟨v, hv0⟩ : ∃ v : World, v = wr.alloc (.cells #[.int .i64 kd, .int .i64 P] 28) := ⟨_, rfl⟩
        have huv : Upd (fun _ => False) wr v := by rw [hv0]; exact (Upd.refl _ _).alloc _
        have hob : Blk v wr.heap.size 28 #[.int .i64 kd, .int .i64 P] := by rw [hv0]; exact Blk.new wr _ _
        have HV0 := Lib.hid hv0
        have r0 : wr.cell? ⟨r.blk, 0, none⟩ = some (.int .i64 r.base) := (hrep.reg r HR.out).cell 0
        have p1 : v.cell? ⟨pb, 1, none⟩ = some (.slice (some ⟨gb, 0, none⟩) 64 64) := (hrep.pool.upd huv (fun h => h)).cell 1
        have b0 : v.cell? ⟨wr.heap.size, 0, none⟩ = some (.int .i64 kd) := hob.cell 0
        have b1 : v.cell? ⟨wr.heap.size, 1, none⟩ = some (.int .i64 P) := hob.cell 1
        have hpg := hrep.page.upd huv (fun h => h)
        obtain ⟨c0, c1⟩ := page_cell hpg hP64
        have f0 : v.frozen? ⟨gb, P * 2, none⟩ = false := hpg.frozen _
        have f1 : v.frozen? ⟨gb, P * 2 + 1, none⟩ = false := hpg.frozen _
        have hst := hrep.setPage
        have hs1 := ((hrep.same huv).trans ((hrep.grow huv (fun _ _ h => h)).setPage P kd (.inr ⟨hk, hk8⟩))).behind ((Upd.refl (fun _ => False) _).drew)
        rw [if_neg (show ¬ kd = 0 by omega), show 2 * P = P * 2 by omega] at hs1
        obtain ⟨v3, hv3⟩ : ∃ v3 : World, v3 = ((v.setCell ⟨gb, P * 2, none⟩ (.int .i64 kd)).setCell ⟨gb, P * 2 + 1, none⟩ (.int .i64 P)).drew := ⟨_, rfl⟩
        rw [← hv3] at hs1
        have hv' := hs1.ints hrep hv
        have hob3 : Blk v3 wr.heap.size 28 #[.int .i64 kd, .int .i64 P] := by
          have hne : wr.heap.size ≠ gb := by have := hrep.page.lt; omega
          rw [hv3]
          exact ((hob.far hne _).far hne _).drew
        have k1 : v3.cell? ⟨wr.heap.size, 1, none⟩ = some (.int .i64 P) := hob3.cell 1
        obtain ⟨A', n', c', w5, hap, hv5, hu5⟩ := hv'.app (P : Int) (Nat.le_trans hs.upd.size hs1.upd.size) (by rw [nums_len]; omega)
        have hs5 := (hs.trans hs1).aside hu5 (fun i hi hg => by
          obtain ⟨_, cs, hb⟩ := hv'.blk hg
          exact hs1.rep.not_own hb hi) (fun i hg => (hv'.blk hg).1)
        have hn5 : nums 0 (r.base + r.mark) 1 j ++ [(P : Int)] = nums 0 (r.base + r.mark) 1 (j + 1) := by
          rw [nums_succ]
          congr 2
          omega
        rw [hn5] at hv5
        have HA := Lib.hid hap
        have HV5 := Lib.hid hv5
        have HS5 := Lib.hid hs5
        have HV3 := Lib.hid hv3
        have hgl := hrep.page.lt
        generalize K' P = kk at c0
        generalize numK K' P = kn at c1
        clear hs hv hm hrep hP hv0 huv hob hpg hst hs1 hv3 hv' hob3 hap hv5 hu5 hs5 hn5
        go_wp2_with fail
        rw [← HV0.out]
        go_region
        all_goals
          rw [← HV3.out]
          go_wp2_with (at_builtin; refine Lib.wpList_append_run _ rfl _ _ _ _ rfl _ _ rfl rfl _ _ HA.out ?_)
          go_roundw
          case rel => exact ⟨j + 1, _, by omega, by go_num, by rw [HM.out]; go_num, HV5.out, HS5.out⟩
          case measure => simp [intOf]; omega
      · obtain rfl : cnt = j := by omega
        have q2 : wr.cell? ⟨r.blk, 2, none⟩ = some (.int .i64 r.mark) := (hrep.reg r HR.out).cell 2
        have q3 : wr.frozen? ⟨r.blk, 2, none⟩ = false := (hrep.reg r HR.out).frozen 2
        have hs1 := hrep.setMark HR.out m (by rw [← HN.out]; omega)
        have hv' := hs1.ints hrep hv
        have HS1 := Lib.hid (hs.trans hs1)
        have HV' := Lib.hid hv'
        clear hs hv hm hrep hs1 hv'
        go_wp2_with fail
        go_ret2
        refine .inr ⟨by rw [HM0.out, ← HN.out]; omega, _, _, _, rfl, by rw [HM0.out]; exact HV'.out, HS1.out, by unfold setMark; simp⟩

set_option maxRecDepth 100000 in
set_option maxHeartbeats 8000000 in
theorem give_page4 (h : PRep w base pb mb gb K E) {r : Reg} (hr : r ∈ E) (kd cnt : Nat) (hk : 2 ≤ kd) (hk8 : kd ≤ 8) (hc : 1 ≤ cnt) (hc2 : cnt ≤ 32) (hcl : clearB K E r = true) (hro : r.ord = 0) :
    Calls Try.prog 10 #[.pointer (some ⟨pb, 0, none⟩), .int .i64 r.key, .int .i64 kd, .int .i64 0, .int .i64 cnt] w fun e w' =>
      (2 ^ r.ord < mk0 K E r + cnt ∧ e = .returned (.tuple #[.slice none 0 0, .int .i64 14]) ∧ Upd (fun _ => False) w w') ∨
      (mk0 K E r + cnt ≤ 2 ^ r.ord ∧ ∃ v K' E', e = .returned (.tuple #[v, .int .i64 0]) ∧ IntV w' w.heap.size v (nums 0 (r.base + mk0 K E r) 1 cnt) ∧ PStep w w' base pb mb gb E K' E' ∧ E'.length ≤ E.length + cnt) := by
  have p0 : w.cell? ⟨pb, 0, none⟩ = some (.map (some mb)) := h.pool.cell 0
  have r2 : w.cell? ⟨r.blk, 2, none⟩ = some (.int .i64 r.mark) := (h.reg r hr).cell 2
  have hl := h.look_yes hr
  have HC := Lib.hid (clear_ok h hr)
  rw [hcl] at HC
  have hm0 : mk0 K E r = 0 := by unfold mk0; rw [hcl]; rfl
  have HM0 := Lib.hid hm0
  have H := Lib.hid h
  have HR := Lib.hid hr
  have hok := h.ok r hr
  have ho := hok.ord
  have ht := hok.top
  have hmk := hok.mark
  obtain ⟨N, hN⟩ : ∃ N, N = 2 ^ r.ord := ⟨_, rfl⟩
  have hp : (2 : Int) ^ r.ord = (N : Int) := by rw [hN]; norm_cast
  rw [← hN] at ht hmk
  have hN1 : N = 1 := by rw [hN, hro]
  have HN := Lib.hid hN
  have hdk : ((kd : Int) == 1) = false := by
    have : (kd : Int) ≠ 1 := by omega
    simpa using this
  have hdk' : ((kd : Int) != 1) = true := by
    have : (kd : Int) ≠ 1 := by omega
    simpa using this
  have g1 : decide ((kd : Int) < 1) = false := decide_eq_false (by omega)
  have g2 : decide ((8 : Int) < (kd : Int)) = false := decide_eq_false (by omega)
  have g3 : decide ((cnt : Int) < 1) = false := decide_eq_false (by omega)
  have g4 : decide ((64 : Int) < (cnt : Int)) = false := decide_eq_false (by omega)
  clear h hr hok hN hcl hm0
  go_enter Try.func10, Try.ntmps10
  go_wp2_with fail
  refine HC.out.mono ?_
  rintro _ w1 ⟨rfl, hu1⟩
  have HU1 := Lib.hid hu1
  have r1 : w1.cell? ⟨r.blk, 1, none⟩ = some (.int .i64 r.ord) := ((H.out.reg r HR.out).upd hu1 (fun h => h)).cell 1
  have HS1 := Lib.hid (H.out.same hu1)
  clear p0 r2 hl HC hu1
  by_cases hroom : N < 0 + cnt
  · have hd : decide ((1 : Int) < (cnt : Int)) = true := decide_eq_true (by omega)
    go_wp2_with fail
    go_ret2
    exact .inl ⟨by rw [HM0.out, ← HN.out]; exact hroom, rfl, HU1.out⟩
  · have hd : decide ((1 : Int) < (cnt : Int)) = false := decide_eq_false (by omega)
    have hroom' : 0 + cnt ≤ N := by omega
    clear hroom
    go_wp2_with fail
    go_loopw [13, 15, 96] (fun vm vl vi wr => ∃ (j : Nat) (K' : Nat → Nat), j ≤ cnt ∧ vi = .int .i64 j ∧ vm = .int .i64 (0 + j : Nat) ∧ IntV wr w.heap.size vl (nums 0 (r.base + 0) 1 j) ∧ PStep w wr base pb mb gb E K' E) (fun _ _ i _ => cnt - (intOf i).toNat)
    case atStart => exact ⟨0, K, by omega, rfl, by first | rfl | go_num, IntV.nil _ _, HS1.out⟩
    case round =>
      obtain ⟨j, K', hj, rfl, hvm, hv, hs⟩ := hrel
      obtain ⟨m, hm⟩ : ∃ m, m = 0 + j := ⟨_, rfl⟩
      rw [← hm] at hvm
      subst hvm
      have hrep := hs.rep
      have HS := Lib.hid hs
      have HV := Lib.hid hv
      have HM := Lib.hid hm
      obtain ⟨A0, cap0, rfl, _⟩ := hv.shape
      rcases Nat.lt_or_ge j cnt with hlt | hge
      · obtain ⟨P, hP⟩ : ∃ P, P = r.base + m := ⟨_, rfl⟩
        have hP64 : P < 64 := by omega
        have eP : (r.base : Int) + (m : Int) = (P : Int) := by omega
        have HP := Lib.hid hP
        obtain ⟨v, hv0⟩ : ∃ v : World, v = wr.alloc (.cells #[.int .i64 kd, .int .i64 P] 28) := ⟨_, rfl⟩
        have huv : Upd (fun _ => False) wr v := by rw [hv0]; exact (Upd.refl _ _).alloc _
        have hob : Blk v wr.heap.size 28 #[.int .i64 kd, .int .i64 P] := by rw [hv0]; exact Blk.new wr _ _
        have HV0 := Lib.hid hv0
        have r0 : wr.cell? ⟨r.blk, 0, none⟩ = some (.int .i64 r.base) := (hrep.reg r HR.out).cell 0
        have p1 : v.cell? ⟨pb, 1, none⟩ = some (.slice (some ⟨gb, 0, none⟩) 64 64) := (hrep.pool.upd huv (fun h => h)).cell 1
        have b0 : v.cell? ⟨wr.heap.size, 0, none⟩ = some (.int .i64 kd) := hob.cell 0
        have b1 : v.cell? ⟨wr.heap.size, 1, none⟩ = some (.int .i64 P) := hob.cell 1
        have hpg := hrep.page.upd huv (fun h => h)
        obtain ⟨c0, c1⟩ := page_cell hpg hP64
        have f0 : v.frozen? ⟨gb, P * 2, none⟩ = false := hpg.frozen _
        have f1 : v.frozen? ⟨gb, P * 2 + 1, none⟩ = false := hpg.frozen _
        have hst := hrep.setPage
        have hs1 := ((hrep.same huv).trans ((hrep.grow huv (fun _ _ h => h)).setPage P kd (.inr ⟨hk, hk8⟩))).behind ((Upd.refl (fun _ => False) _).drew)
        rw [if_neg (show ¬ kd = 0 by omega), show 2 * P = P * 2 by omega] at hs1
        obtain ⟨v3, hv3⟩ : ∃ v3 : World, v3 = ((v.setCell ⟨gb, P * 2, none⟩ (.int .i64 kd)).setCell ⟨gb, P * 2 + 1, none⟩ (.int .i64 P)).drew := ⟨_, rfl⟩
        rw [← hv3] at hs1
        have hv' := hs1.ints hrep hv
        have hob3 : Blk v3 wr.heap.size 28 #[.int .i64 kd, .int .i64 P] := by
          have hne : wr.heap.size ≠ gb := by have := hrep.page.lt; omega
          rw [hv3]
          exact ((hob.far hne _).far hne _).drew
        have k1 : v3.cell? ⟨wr.heap.size, 1, none⟩ = some (.int .i64 P) := hob3.cell 1
        obtain ⟨A', n', c', w5, hap, hv5, hu5⟩ := hv'.app (P : Int) (Nat.le_trans hs.upd.size hs1.upd.size) (by rw [nums_len]; omega)
        have hs5 := (hs.trans hs1).aside hu5 (fun i hi hg => by
          obtain ⟨_, cs, hb⟩ := hv'.blk hg
          exact hs1.rep.not_own hb hi) (fun i hg => (hv'.blk hg).1)
        have hn5 : nums 0 (r.base + 0) 1 j ++ [(P : Int)] = nums 0 (r.base + 0) 1 (j + 1) := by
          rw [nums_succ]
          congr 2
          omega
        rw [hn5] at hv5
        have HA := Lib.hid hap
        have HV5 := Lib.hid hv5
        have HS5 := Lib.hid hs5
        have HV3 := Lib.hid hv3
        have hgl := hrep.page.lt
        generalize K' P = kk at c0
        generalize numK K' P = kn at c1
        clear hs hv hm hrep hP hv0 huv hob hpg hst hs1 hv3 hv' hob3 hap hv5 hu5 hs5 hn5
        go_wp2_with fail
        rw [← HV0.out]
        go_region
        all_goals
          rw [← HV3.out]
          go_wp2_with (at_builtin; refine Lib.wpList_append_run _ rfl _ _ _ _ rfl _ _ rfl rfl _ _ HA.out ?_)
          go_roundw
          case rel => exact ⟨j + 1, _, by omega, by go_num, by rw [HM.out]; go_num, HV5.out, HS5.out⟩
          case measure => simp [intOf]; omega
      · obtain rfl : cnt = j := by omega
        have q2 : wr.cell? ⟨r.blk, 2, none⟩ = some (.int .i64 r.mark) := (hrep.reg r HR.out).cell 2
        have q3 : wr.frozen? ⟨r.blk, 2, none⟩ = false := (hrep.reg r HR.out).frozen 2
        have hs1 := hrep.setMark HR.out m (by rw [← HN.out]; omega)
        have hv' := hs1.ints hrep hv
        have HS1 := Lib.hid (hs.trans hs1)
        have HV' := Lib.hid hv'
        clear hs hv hm hrep hs1 hv'
        go_wp2_with fail
        go_ret2
        refine .inr ⟨by rw [HM0.out, ← HN.out]; omega, _, _, _, rfl, by rw [HM0.out]; exact HV'.out, HS1.out, by unfold setMark; simp⟩

end
end Go.Proofs.Ytjjgdacjfmiamaa
