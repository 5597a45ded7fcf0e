/- pool: Give of untypeds. -/
import Derived.Test.YtjjgdacjfmiamaaPoolW11
namespace Go.Proofs.Ytjjgdacjfmiamaa
open Go.RowKit Go.Lib

section
variable {w : World} {base pb mb gb : Nat} {K : Nat → Nat} {E : List Reg}

/-- What giving untypeds comes to. -/
def GiveU (w w' : World) (base pb mb gb : Nat) (K : Nat → Nat) (E : List Reg) (r : Reg) (o n cnt : Nat) (e : Ending) : Prop :=
  (¬ (o < r.ord ∧ up (mk0 K E r) n + cnt * n ≤ 2 ^ r.ord) ∧ e = .returned (.tuple #[.slice none 0 0, .int .i64 14]) ∧ Upd (fun _ => False) w w') ∨
  (o < r.ord ∧ up (mk0 K E r) n + cnt * n ≤ 2 ^ r.ord ∧ ∃ v K' E', e = .returned (.tuple #[v, .int .i64 0]) ∧ IntV w' w.heap.size v (nums (o * 256) (r.base + up (mk0 K E r) n) n cnt) ∧ PStep w w' base pb mb gb E K' E' ∧ E'.length ≤ E.length + cnt)

set_option maxRecDepth 100000 in
set_option maxHeartbeats 8000000 in
theorem give_unt0 (h : PRep w base pb mb gb K E) {r : Reg} (hr : r ∈ E) (cnt : Nat) (hc : 1 ≤ cnt) (hc2 : cnt ≤ 32) (hcl : clearB K E r = false) (hro : 0 < r.ord) :
    Calls Try.prog 10 #[.pointer (some ⟨pb, 0, none⟩), .int .i64 r.key, .int .i64 1, .int .i64 0, .int .i64 cnt] w fun e w' => GiveU w w' base pb mb gb K E r 0 1 cnt e := by
  have p0 : w.cell? ⟨pb, 0, none⟩ = some (.map (some mb)) := h.pool.cell 0
  have r2 : w.cell? ⟨r.blk, 2, none⟩ = some (.int .i64 r.mark) := (h.reg r hr).cell 2
  have hl := h.look_yes hr
  have HC := Lib.hid (clear_ok h hr)
  rw [hcl] at HC
  have hm0 : mk0 K E r = r.mark := by unfold mk0; rw [hcl]; rfl
  have HM0 := Lib.hid hm0
  have H := Lib.hid h
  have HR := Lib.hid hr
  have hok := h.ok r hr
  have ho := hok.ord
  have ht := hok.top
  have hmk := hok.mark
  have HAL := Lib.hid (show r.base % 1 = 0 by
    have h1 := hok.al
    rcases pow5 ho with ⟨e1, e2⟩ | ⟨e1, e2⟩ | ⟨e1, e2⟩ | ⟨e1, e2⟩ | ⟨e1, e2⟩ | ⟨e1, e2⟩ <;> rw [e1] at h1 <;> omega)
  obtain ⟨N, hN⟩ : ∃ N, N = 2 ^ r.ord := ⟨_, rfl⟩
  have hp : (2 : Int) ^ r.ord = (N : Int) := by rw [hN]; norm_cast
  rw [← hN] at ht hmk
  have hro' : ¬ r.ord = 0 := by omega
  have HN := Lib.hid hN
  have g3 : decide ((cnt : Int) < 1) = false := decide_eq_false (by omega)
  have g4 : decide ((64 : Int) < (cnt : Int)) = false := decide_eq_false (by omega)
  clear h hr hok hN hcl hm0
  go_enter Try.func10, Try.ntmps10
  go_wp2_with fail
  refine HC.out.mono ?_
  rintro _ w1 ⟨rfl, hu1⟩
  have HU1 := Lib.hid hu1
  have r1 : w1.cell? ⟨r.blk, 1, none⟩ = some (.int .i64 r.ord) := ((H.out.reg r HR.out).upd hu1 (fun h => h)).cell 1
  have HS1 := Lib.hid (H.out.same hu1)
  clear p0 r2 hl HC hu1
  have HM1 := Lib.hid (show r.mark = up r.mark 1 by unfold up; omega)
  have HMM := Lib.hid (show r.mark % 1 = 0 by omega)
  by_cases hroom : N < r.mark + cnt * 1
  · have hd : decide ((N : Int) < (r.mark : Int) + (cnt : Int)) = true := decide_eq_true (by omega)
    go_wp2_with fail
    go_ret2
    unfold GiveU
    exact .inl ⟨fun h => by
      have h2 := h.2
      rw [HM0.out, ← HM1.out, ← HN.out] at h2
      omega, rfl, HU1.out⟩
  · have hd : decide ((N : Int) < (r.mark : Int) + (cnt : Int)) = false := decide_eq_false (by omega)
    have hroom' : r.mark + cnt * 1 ≤ N := by omega
    clear hroom
    go_wp2_with fail
    go_loopw [13, 15, 96] (fun vm vl vi wr => ∃ (j : Nat) (E' : List Reg), j ≤ cnt ∧ vi = .int .i64 j ∧ vm = .int .i64 (r.mark + j * 1 : Nat) ∧ IntV wr w.heap.size vl (nums (0 * 256) (r.base + r.mark) 1 j) ∧ PStep w wr base pb mb gb E K E' ∧ r ∈ E' ∧ E'.length ≤ E.length + j) (fun _ _ i _ => cnt - (intOf i).toNat)
    case atStart => exact ⟨0, E, by omega, rfl, by first | rfl | go_num, IntV.nil _ _, HS1.out, HR.out, by omega⟩
    case round =>
      obtain ⟨j, E', hj, rfl, hvm, hv, hs, hrE, hEl⟩ := hrel
      obtain ⟨m, hm⟩ : ∃ m, m = r.mark + j * 1 := ⟨_, rfl⟩
      rw [← hm] at hvm
      subst hvm
      have hrep := hs.rep
      have HS := Lib.hid hs
      have HV := Lib.hid hv
      have HM := Lib.hid hm
      obtain ⟨A0, cap0, rfl, _⟩ := hv.shape
      rcases Nat.lt_or_ge j cnt with hlt | hge
      · obtain ⟨P, hP⟩ : ∃ P, P = r.base + m := ⟨_, rfl⟩
        have hP64 : P + 1 ≤ 64 := by omega
        have eP : (r.base : Int) + (m : Int) = (P : Int) := by omega
        have HP := Lib.hid hP
        obtain ⟨v, hv0⟩ : ∃ v : World, v = wr.alloc (.cells #[.int .i64 1, .int .i64 P] 28) := ⟨_, rfl⟩
        have huv : Upd (fun _ => False) wr v := by rw [hv0]; exact (Upd.refl _ _).alloc _
        have hob : Blk v wr.heap.size 28 #[.int .i64 1, .int .i64 P] := by rw [hv0]; exact Blk.new wr _ _
        have hvz : v.heap.size = wr.heap.size + 1 := by rw [hv0, World.alloc]; simp only [Array.size_push]
        have HV0 := Lib.hid hv0
        have r0 : wr.cell? ⟨r.blk, 0, none⟩ = some (.int .i64 r.base) := (hrep.reg r hrE).cell 0
        have r0' : v.cell? ⟨r.blk, 0, none⟩ = some (.int .i64 r.base) := ((hrep.reg r hrE).upd huv (fun h => h)).cell 0
        have p0 : v.cell? ⟨pb, 0, none⟩ = some (.map (some mb)) := (hrep.pool.upd huv (fun h => h)).cell 0
        have b0 : v.cell? ⟨wr.heap.size, 0, none⟩ = some (.int .i64 1) := hob.cell 0
        have b1 : v.cell? ⟨wr.heap.size, 1, none⟩ = some (.int .i64 P) := hob.cell 1
        have l1 : wr.heap.size < v.heap.size := by omega
        have l2 : pb < v.heap.size := (hrep.pool.upd huv (fun h => h)).lt
        have l3 : r.blk < v.heap.size := ((hrep.reg r hrE).upd huv (fun h => h)).lt
        have hux : Upd (fun _ => False) wr (v.alloc (.cells #[.int .i64 P, .int .i64 0, .int .i64 0] 50)).drew := (huv.alloc _).drew
        have hrb : Blk (v.alloc (.cells #[.int .i64 P, .int .i64 0, .int .i64 0] 50)).drew v.heap.size 50 #[.int .i64 P, .int .i64 0, .int .i64 0] := (Blk.new v _ _).drew
        obtain ⟨o, E2, hmu, hrep2, hE2, hE2', hlen2⟩ := (hrep.grow hux (fun _ _ h => h)).putReg ⟨P, P, 0, 0, v.heap.size, 0⟩ hrb (fun hi => by have h7 : v.heap.size < wr.heap.size := hrep.lt _ hi; omega) (by have := hrep.low _ (.inl rfl); have := hrep.pool.lt; show base ≤ v.heap.size; omega)
          ⟨by show P = 0 * 256 + P; omega, by show 0 ≤ 5; omega, by show P % 2 ^ 0 = 0; have := HAL.out; have := HMM.out; simp only [Nat.reducePow]; omega, by show P + 2 ^ 0 ≤ 64; simp only [Nat.reducePow]; omega, Nat.zero_le _⟩ (by show P ≠ 1312; omega)
        obtain ⟨v3, hv3⟩ : ∃ v3 : World, v3 = putObj (v.alloc (.cells #[.int .i64 P, .int .i64 0, .int .i64 0] 50)).drew mb o := ⟨_, rfl⟩
        rw [← hv3] at hmu hrep2
        have hu3 : Upd (fun i => i = mb) wr v3 := by rw [hv3]; exact ((hux.mono (G := fun i => i = mb) (fun _ _ h => h.elim)).putObj (g := mb) (.inr rfl) o)
        have hs1 : PStep wr v3 base pb mb gb E' K E2 := ⟨hrep2, hu3.mono (fun i _ h => .inr (.inl h)), fun i hi ho => by
          rcases ho with h1 | h1 | h1 | ⟨x, hx, rfl⟩
          · exact .inl h1
          · exact .inr (.inl h1)
          · exact .inr (.inr (.inl h1))
          · rcases hE2 x hx with ⟨h2, _⟩ | ⟨h2, _⟩
            · exact .inr (.inr (.inr ⟨x, h2, rfl⟩))
            · rw [h2] at hi
              exact absurd hi (by show ¬ v.heap.size < _; omega)⟩
        have hrE2 : r ∈ E2 := hE2' r hrE (by
          have h1 := (H.out.ok r HR.out).key_div
          show r.key ≠ P
          omega)
        have hv' := hs1.ints hrep hv
        have k1 : v3.cell? ⟨wr.heap.size, 1, none⟩ = some (.int .i64 P) := by
          have hne : ¬ wr.heap.size = mb := fun e => by have := hrep.lt mb (.inr (.inl rfl)); omega
          rw [hv3]
          exact (((hob.alloc _).drew).putObj hne o).cell 1
        obtain ⟨A', n', c', w5, hap, hv5, hu5⟩ := hv'.app ((P : Nat) : Int) (Nat.le_trans hs.upd.size hs1.upd.size) (by rw [nums_len]; omega)
        have hs5 := (hs.trans hs1).aside hu5 (fun i hi hg => by
          obtain ⟨_, cs, hb⟩ := hv'.blk hg
          exact hs1.rep.not_own hb hi) (fun i hg => (hv'.blk hg).1)
        have hn5 : nums (0 * 256) (r.base + r.mark) 1 j ++ [((P : Nat) : Int)] = nums (0 * 256) (r.base + r.mark) 1 (j + 1) := by
          rw [nums_succ]
          congr 2
          omega
        rw [hn5] at hv5
        have hl5 : E2.length ≤ E.length + (j + 1) := by omega
        have HA := Lib.hid hap
        have HV5 := Lib.hid hv5
        have HS5 := Lib.hid hs5
        have HV3 := Lib.hid hv3
        have HE5 := Lib.hid (And.intro hrE2 hl5)
        have HMU := Lib.hid hmu
        clear hs hv hm hrep hP hv0 huv hob hs1 hv3 hv' hap hv5 hu5 hs5 hn5 hux hrb hmu hrep2 hE2 hE2' hlen2 hu3 hrE2 hl5 hvz hrE hEl
        go_wp2_with fail
        rw [← HV0.out]
        have hmu := HMU.out
        go_region
        all_goals
          clear hmu
          go_wp2_with (at_builtin; refine Lib.wpList_append_run _ rfl _ _ _ _ rfl _ _ rfl rfl _ _ HA.out ?_)
          go_roundw
          case rel => exact ⟨j + 1, _, by omega, by go_num, by rw [HM.out]; go_num, HV5.out, HS5.out, HE5.out.1, HE5.out.2⟩
          case measure => simp [intOf]; omega
      · obtain rfl : cnt = j := by omega
        have q2 : wr.cell? ⟨r.blk, 2, none⟩ = some (.int .i64 r.mark) := (hrep.reg r hrE).cell 2
        have q3 : wr.frozen? ⟨r.blk, 2, none⟩ = false := (hrep.reg r hrE).frozen 2
        have hs1 := hrep.setMark hrE m (by rw [← HN.out]; omega)
        have hv' := hs1.ints hrep hv
        have HS1 := Lib.hid (hs.trans hs1)
        have HV' := Lib.hid hv'
        have HEL := Lib.hid hEl
        clear hs hv hm hrep hs1 hv' hrE hEl
        go_wp2_with fail
        go_ret2
        unfold GiveU
        refine .inr ⟨by omega, by rw [HM0.out, ← HM1.out, ← HN.out]; omega, _, _, _, rfl, by rw [HM0.out, ← HM1.out]; exact HV'.out, HS1.out, by have := HEL.out; unfold setMark; simpa using this⟩

set_option maxRecDepth 100000 in
set_option maxHeartbeats 8000000 in
theorem give_unt0c (h : PRep w base pb mb gb K E) {r : Reg} (hr : r ∈ E) (cnt : Nat) (hc : 1 ≤ cnt) (hc2 : cnt ≤ 32) (hcl : clearB K E r = true) (hro : 0 < r.ord) :
    Calls Try.prog 10 #[.pointer (some ⟨pb, 0, none⟩), .int .i64 r.key, .int .i64 1, .int .i64 0, .int .i64 cnt] w fun e w' => GiveU w w' base pb mb gb K E r 0 1 cnt e := by
  have p0 : w.cell? ⟨pb, 0, none⟩ = some (.map (some mb)) := h.pool.cell 0
  have r2 : w.cell? ⟨r.blk, 2, none⟩ = some (.int .i64 r.mark) := (h.reg r hr).cell 2
  have hl := h.look_yes hr
  have HC := Lib.hid (clear_ok h hr)
  rw [hcl] at HC
  have hm0 : mk0 K E r = 0 := by unfold mk0; rw [hcl]; rfl
  have HM0 := Lib.hid hm0
  have H := Lib.hid h
  have HR := Lib.hid hr
  have hok := h.ok r hr
  have ho := hok.ord
  have ht := hok.top
  have hmk := hok.mark
  have HAL := Lib.hid (show r.base % 1 = 0 by
    have h1 := hok.al
    rcases pow5 ho with ⟨e1, e2⟩ | ⟨e1, e2⟩ | ⟨e1, e2⟩ | ⟨e1, e2⟩ | ⟨e1, e2⟩ | ⟨e1, e2⟩ <;> rw [e1] at h1 <;> omega)
  obtain ⟨N, hN⟩ : ∃ N, N = 2 ^ r.ord := ⟨_, rfl⟩
  have hp : (2 : Int) ^ r.ord = (N : Int) := by rw [hN]; norm_cast
  rw [← hN] at ht hmk
  have hro' : ¬ r.ord = 0 := by omega
  have HN := Lib.hid hN
  have g3 : decide ((cnt : Int) < 1) = false := decide_eq_false (by omega)
  have g4 : decide ((64 : Int) < (cnt : Int)) = false := decide_eq_false (by omega)
  clear h hr hok hN hcl hm0
  go_enter Try.func10, Try.ntmps10
  go_wp2_with fail
  refine HC.out.mono ?_
  rintro _ w1 ⟨rfl, hu1⟩
  have HU1 := Lib.hid hu1
  have r1 : w1.cell? ⟨r.blk, 1, none⟩ = some (.int .i64 r.ord) := ((H.out.reg r HR.out).upd hu1 (fun h => h)).cell 1
  have HS1 := Lib.hid (H.out.same hu1)
  clear p0 r2 hl HC hu1
  have HM1 := Lib.hid (show 0 = up 0 1 from rfl)
  have HMM := Lib.hid (show 0 % 1 = 0 from rfl)
  by_cases hroom : N < 0 + cnt * 1
  · have hd : decide (N < cnt) = true := decide_eq_true (by omega)
    go_wp2_with fail
    go_ret2
    unfold GiveU
    exact .inl ⟨fun h => by
      have h2 := h.2
      rw [HM0.out, ← HM1.out, ← HN.out] at h2
      omega, rfl, HU1.out⟩
  · have hd : decide (N < cnt) = false := decide_eq_false (by omega)
    have hroom' : 0 + cnt * 1 ≤ N := by omega
    clear hroom
    go_wp2_with fail
    go_loopw [13, 15, 96] (fun vm vl vi wr => ∃ (j : Nat) (E' : List Reg), j ≤ cnt ∧ vi = .int .i64 j ∧ vm = .int .i64 (0 + j * 1 : Nat) ∧ IntV wr w.heap.size vl (nums (0 * 256) (r.base + 0) 1 j) ∧ PStep w wr base pb mb gb E K E' ∧ r ∈ E' ∧ E'.length ≤ E.length + j) (fun _ _ i _ => cnt - (intOf i).toNat)
    case atStart => exact ⟨0, E, by omega, rfl, by first | rfl | go_num, IntV.nil _ _, HS1.out, HR.out, by omega⟩
    case round =>
      obtain ⟨j, E', hj, rfl, hvm, hv, hs, hrE, hEl⟩ := hrel
      obtain ⟨m, hm⟩ : ∃ m, m = 0 + j * 1 := ⟨_, rfl⟩
      rw [← hm] at hvm
      subst hvm
      have hrep := hs.rep
      have HS := Lib.hid hs
      have HV := Lib.hid hv
      have HM := Lib.hid hm
      obtain ⟨A0, cap0, rfl, _⟩ := hv.shape
      rcases Nat.lt_or_ge j cnt with hlt | hge
      · obtain ⟨P, hP⟩ : ∃ P, P = r.base + m := ⟨_, rfl⟩
        have hP64 : P + 1 ≤ 64 := by omega
        have eP : (r.base : Int) + (m : Int) = (P : Int) := by omega
        have HP := Lib.hid hP
        obtain ⟨v, hv0⟩ : ∃ v : World, v = wr.alloc (.cells #[.int .i64 1, .int .i64 P] 28) := ⟨_, rfl⟩
        have huv : Upd (fun _ => False) wr v := by rw [hv0]; exact (Upd.refl _ _).alloc _
        have hob : Blk v wr.heap.size 28 #[.int .i64 1, .int .i64 P] := by rw [hv0]; exact Blk.new wr _ _
        have hvz : v.heap.size = wr.heap.size + 1 := by rw [hv0, World.alloc]; simp only [Array.size_push]
        have HV0 := Lib.hid hv0
        have r0 : wr.cell? ⟨r.blk, 0, none⟩ = some (.int .i64 r.base) := (hrep.reg r hrE).cell 0
        have r0' : v.cell? ⟨r.blk, 0, none⟩ = some (.int .i64 r.base) := ((hrep.reg r hrE).upd huv (fun h => h)).cell 0
        have p0 : v.cell? ⟨pb, 0, none⟩ = some (.map (some mb)) := (hrep.pool.upd huv (fun h => h)).cell 0
        have b0 : v.cell? ⟨wr.heap.size, 0, none⟩ = some (.int .i64 1) := hob.cell 0
        have b1 : v.cell? ⟨wr.heap.size, 1, none⟩ = some (.int .i64 P) := hob.cell 1
        have l1 : wr.heap.size < v.heap.size := by omega
        have l2 : pb < v.heap.size := (hrep.pool.upd huv (fun h => h)).lt
        have l3 : r.blk < v.heap.size := ((hrep.reg r hrE).upd huv (fun h => h)).lt
        have hux : Upd (fun _ => False) wr (v.alloc (.cells #[.int .i64 P, .int .i64 0, .int .i64 0] 50)).drew := (huv.alloc _).drew
        have hrb : Blk (v.alloc (.cells #[.int .i64 P, .int .i64 0, .int .i64 0] 50)).drew v.heap.size 50 #[.int .i64 P, .int .i64 0, .int .i64 0] := (Blk.new v _ _).drew
        obtain ⟨o, E2, hmu, hrep2, hE2, hE2', hlen2⟩ := (hrep.grow hux (fun _ _ h => h)).putReg ⟨P, P, 0, 0, v.heap.size, 0⟩ hrb (fun hi => by have h7 : v.heap.size < wr.heap.size := hrep.lt _ hi; omega) (by have := hrep.low _ (.inl rfl); have := hrep.pool.lt; show base ≤ v.heap.size; omega)
          ⟨by show P = 0 * 256 + P; omega, by show 0 ≤ 5; omega, by show P % 2 ^ 0 = 0; have := HAL.out; have := HMM.out; simp only [Nat.reducePow]; omega, by show P + 2 ^ 0 ≤ 64; simp only [Nat.reducePow]; omega, Nat.zero_le _⟩ (by show P ≠ 1312; omega)
        obtain ⟨v3, hv3⟩ : ∃ v3 : World, v3 = putObj (v.alloc (.cells #[.int .i64 P, .int .i64 0, .int .i64 0] 50)).drew mb o := ⟨_, rfl⟩
        rw [← hv3] at hmu hrep2
        have hu3 : Upd (fun i => i = mb) wr v3 := by rw [hv3]; exact ((hux.mono (G := fun i => i = mb) (fun _ _ h => h.elim)).putObj (g := mb) (.inr rfl) o)
        have hs1 : PStep wr v3 base pb mb gb E' K E2 := ⟨hrep2, hu3.mono (fun i _ h => .inr (.inl h)), fun i hi ho => by
          rcases ho with h1 | h1 | h1 | ⟨x, hx, rfl⟩
          · exact .inl h1
          · exact .inr (.inl h1)
          · exact .inr (.inr (.inl h1))
          · rcases hE2 x hx with ⟨h2, _⟩ | ⟨h2, _⟩
            · exact .inr (.inr (.inr ⟨x, h2, rfl⟩))
            · rw [h2] at hi
              exact absurd hi (by show ¬ v.heap.size < _; omega)⟩
        have hrE2 : r ∈ E2 := hE2' r hrE (by
          have h1 := (H.out.ok r HR.out).key_div
          show r.key ≠ P
          omega)
        have hv' := hs1.ints hrep hv
        have k1 : v3.cell? ⟨wr.heap.size, 1, none⟩ = some (.int .i64 P) := by
          have hne : ¬ wr.heap.size = mb := fun e => by have := hrep.lt mb (.inr (.inl rfl)); omega
          rw [hv3]
          exact (((hob.alloc _).drew).putObj hne o).cell 1
        obtain ⟨A', n', c', w5, hap, hv5, hu5⟩ := hv'.app ((P : Nat) : Int) (Nat.le_trans hs.upd.size hs1.upd.size) (by rw [nums_len]; omega)
        have hs5 := (hs.trans hs1).aside hu5 (fun i hi hg => by
          obtain ⟨_, cs, hb⟩ := hv'.blk hg
          exact hs1.rep.not_own hb hi) (fun i hg => (hv'.blk hg).1)
        have hn5 : nums (0 * 256) (r.base + 0) 1 j ++ [((P : Nat) : Int)] = nums (0 * 256) (r.base + 0) 1 (j + 1) := by
          rw [nums_succ]
          congr 2
          omega
        rw [hn5] at hv5
        have hl5 : E2.length ≤ E.length + (j + 1) := by omega
        have HA := Lib.hid hap
        have HV5 := Lib.hid hv5
        have HS5 := Lib.hid hs5
        have HV3 := Lib.hid hv3
        have HE5 := Lib.hid (And.intro hrE2 hl5)
        have HMU := Lib.hid hmu
        clear hs hv hm hrep hP hv0 huv hob hs1 hv3 hv' hap hv5 hu5 hs5 hn5 hux hrb hmu hrep2 hE2 hE2' hlen2 hu3 hrE2 hl5 hvz hrE hEl
        go_wp2_with fail
        rw [← HV0.out]
        have hmu := HMU.out
        go_region
        all_goals
          clear hmu
          go_wp2_with (at_builtin; refine Lib.wpList_append_run _ rfl _ _ _ _ rfl _ _ rfl rfl _ _ HA.out ?_)
          go_roundw
          case rel => exact ⟨j + 1, _, by omega, by go_num, by rw [HM.out]; go_num, HV5.out, HS5.out, HE5.out.1, HE5.out.2⟩
          case measure => simp [intOf]; omega
      · obtain rfl : cnt = j := by omega
        have q2 : wr.cell? ⟨r.blk, 2, none⟩ = some (.int .i64 r.mark) := (hrep.reg r hrE).cell 2
        have q3 : wr.frozen? ⟨r.blk, 2, none⟩ = false := (hrep.reg r hrE).frozen 2
        have hs1 := hrep.setMark hrE m (by rw [← HN.out]; omega)
        have hv' := hs1.ints hrep hv
        have HS1 := Lib.hid (hs.trans hs1)
        have HV' := Lib.hid hv'
        have HEL := Lib.hid hEl
        clear hs hv hm hrep hs1 hv' hrE hEl
        go_wp2_with fail
        go_ret2
        unfold GiveU
        refine .inr ⟨by omega, by rw [HM0.out, ← HM1.out, ← HN.out]; omega, _, _, _, rfl, by rw [HM0.out, ← HM1.out]; exact HV'.out, HS1.out, by have := HEL.out; unfold setMark; simpa using this⟩

set_option maxRecDepth 100000 in
set_option maxHeartbeats 8000000 in
theorem give_unt1 (h : PRep w base pb mb gb K E) {r : Reg} (hr : r ∈ E) (cnt : Nat) (hc : 1 ≤ cnt) (hc2 : cnt ≤ 32) (hcl : clearB K E r = false) (hro : 1 < r.ord) :
    Calls Try.prog 10 #[.pointer (some ⟨pb, 0, none⟩), .int .i64 r.key, .int .i64 1, .int .i64 1, .int .i64 cnt] w fun e w' => GiveU w w' base pb mb gb K E r 1 2 cnt e := by
  have p0 : w.cell? ⟨pb, 0, none⟩ = some (.map (some mb)) := h.pool.cell 0
  have r2 : w.cell? ⟨r.blk, 2, none⟩ = some (.int .i64 r.mark) := (h.reg r hr).cell 2
  have hl := h.look_yes hr
  have HC := Lib.hid (clear_ok h hr)
  rw [hcl] at HC
  have hm0 : mk0 K E r = r.mark := by unfold mk0; rw [hcl]; rfl
  have HM0 := Lib.hid hm0
  have H := Lib.hid h
  have HR := Lib.hid hr
  have hok := h.ok r hr
  have ho := hok.ord
  have ht := hok.top
  have hmk := hok.mark
  have HAL := Lib.hid (show r.base % 2 = 0 by
    have h1 := hok.al
    rcases pow5 ho with ⟨e1, e2⟩ | ⟨e1, e2⟩ | ⟨e1, e2⟩ | ⟨e1, e2⟩ | ⟨e1, e2⟩ | ⟨e1, e2⟩ <;> rw [e1] at h1 <;> omega)
  obtain ⟨N, hN⟩ : ∃ N, N = 2 ^ r.ord := ⟨_, rfl⟩
  have hp : (2 : Int) ^ r.ord = (N : Int) := by rw [hN]; norm_cast
  rw [← hN] at ht hmk
  have hro' : decide (r.ord ≤ 1) = false := by exact decide_eq_false (by omega)
  have HN := Lib.hid hN
  have g3 : decide ((cnt : Int) < 1) = false := decide_eq_false (by omega)
  have g4 : decide ((64 : Int) < (cnt : Int)) = false := decide_eq_false (by omega)
  clear h hr hok hN hcl hm0
  go_enter Try.func10, Try.ntmps10
  go_wp2_with fail
  refine HC.out.mono ?_
  rintro _ w1 ⟨rfl, hu1⟩
  have HU1 := Lib.hid hu1
  have r1 : w1.cell? ⟨r.blk, 1, none⟩ = some (.int .i64 r.ord) := ((H.out.reg r HR.out).upd hu1 (fun h => h)).cell 1
  have HS1 := Lib.hid (H.out.same hu1)
  clear p0 r2 hl HC hu1
  obtain ⟨m1, hm1⟩ : ∃ m1, m1 = up r.mark 2 := ⟨_, rfl⟩
  have HM1 := Lib.hid hm1
  have em1 : ((r.mark : Int) + 2 - 1) / 2 * 2 = (m1 : Int) := by unfold up at hm1; omega
  have HMM := Lib.hid (show m1 % 2 = 0 by unfold up at hm1; omega)
  clear hm1
  by_cases hroom : N < m1 + cnt * 2
  · have hd : decide ((N : Int) < (m1 : Int) + (cnt : Int) * 2) = true := decide_eq_true (by omega)
    go_wp2_with fail
    go_ret2
    unfold GiveU
    exact .inl ⟨fun h => by
      have h2 := h.2
      rw [HM0.out, ← HM1.out, ← HN.out] at h2
      omega, rfl, HU1.out⟩
  · have hd : decide ((N : Int) < (m1 : Int) + (cnt : Int) * 2) = false := decide_eq_false (by omega)
    have hroom' : m1 + cnt * 2 ≤ N := by omega
    clear hroom
    go_wp2_with fail
    go_loopw [13, 15, 96] (fun vm vl vi wr => ∃ (j : Nat) (E' : List Reg), j ≤ cnt ∧ vi = .int .i64 j ∧ vm = .int .i64 (m1 + j * 2 : Nat) ∧ IntV wr w.heap.size vl (nums (1 * 256) (r.base + m1) 2 j) ∧ PStep w wr base pb mb gb E K E' ∧ r ∈ E' ∧ E'.length ≤ E.length + j) (fun _ _ i _ => cnt - (intOf i).toNat)
    case atStart => exact ⟨0, E, by omega, rfl, by first | rfl | go_num, IntV.nil _ _, HS1.out, HR.out, by omega⟩
    case round =>
      obtain ⟨j, E', hj, rfl, hvm, hv, hs, hrE, hEl⟩ := hrel
      obtain ⟨m, hm⟩ : ∃ m, m = m1 + j * 2 := ⟨_, rfl⟩
      rw [← hm] at hvm
      subst hvm
      have hrep := hs.rep
      have HS := Lib.hid hs
      have HV := Lib.hid hv
      have HM := Lib.hid hm
      obtain ⟨A0, cap0, rfl, _⟩ := hv.shape
      rcases Nat.lt_or_ge j cnt with hlt | hge
      · obtain ⟨P, hP⟩ : ∃ P, P = r.base + m := ⟨_, rfl⟩
        have hP64 : P + 2 ≤ 64 := by omega
        have eP : (r.base : Int) + (m : Int) = (P : Int) := by omega
        obtain ⟨Q, hQ⟩ : ∃ Q, Q = P + 256 := ⟨_, rfl⟩
        have eQ : (P : Int) + 256 = (Q : Int) := by omega
        have hQb : Q ≤ 1000 := by omega
        have HQ := Lib.hid hQ
        have HP := Lib.hid hP
        obtain ⟨v, hv0⟩ : ∃ v : World, v = wr.alloc (.cells #[.int .i64 1, .int .i64 Q] 28) := ⟨_, rfl⟩
        have huv : Upd (fun _ => False) wr v := by rw [hv0]; exact (Upd.refl _ _).alloc _
        have hob : Blk v wr.heap.size 28 #[.int .i64 1, .int .i64 Q] := by rw [hv0]; exact Blk.new wr _ _
        have hvz : v.heap.size = wr.heap.size + 1 := by rw [hv0, World.alloc]; simp only [Array.size_push]
        have HV0 := Lib.hid hv0
        have r0 : wr.cell? ⟨r.blk, 0, none⟩ = some (.int .i64 r.base) := (hrep.reg r hrE).cell 0
        have r0' : v.cell? ⟨r.blk, 0, none⟩ = some (.int .i64 r.base) := ((hrep.reg r hrE).upd huv (fun h => h)).cell 0
        have p0 : v.cell? ⟨pb, 0, none⟩ = some (.map (some mb)) := (hrep.pool.upd huv (fun h => h)).cell 0
        have b0 : v.cell? ⟨wr.heap.size, 0, none⟩ = some (.int .i64 1) := hob.cell 0
        have b1 : v.cell? ⟨wr.heap.size, 1, none⟩ = some (.int .i64 Q) := hob.cell 1
        have l1 : wr.heap.size < v.heap.size := by omega
        have l2 : pb < v.heap.size := (hrep.pool.upd huv (fun h => h)).lt
        have l3 : r.blk < v.heap.size := ((hrep.reg r hrE).upd huv (fun h => h)).lt
        have hux : Upd (fun _ => False) wr (v.alloc (.cells #[.int .i64 P, .int .i64 1, .int .i64 0] 50)).drew := (huv.alloc _).drew
        have hrb : Blk (v.alloc (.cells #[.int .i64 P, .int .i64 1, .int .i64 0] 50)).drew v.heap.size 50 #[.int .i64 P, .int .i64 1, .int .i64 0] := (Blk.new v _ _).drew
        obtain ⟨o, E2, hmu, hrep2, hE2, hE2', hlen2⟩ := (hrep.grow hux (fun _ _ h => h)).putReg ⟨Q, P, 1, 0, v.heap.size, 0⟩ hrb (fun hi => by have h7 : v.heap.size < wr.heap.size := hrep.lt _ hi; omega) (by have := hrep.low _ (.inl rfl); have := hrep.pool.lt; show base ≤ v.heap.size; omega)
          ⟨by show Q = 1 * 256 + P; omega, by show 1 ≤ 5; omega, by show P % 2 ^ 1 = 0; have := HAL.out; have := HMM.out; simp only [Nat.reducePow]; omega, by show P + 2 ^ 1 ≤ 64; simp only [Nat.reducePow]; omega, Nat.zero_le _⟩ (by show Q ≠ 1312; omega)
        obtain ⟨v3, hv3⟩ : ∃ v3 : World, v3 = putObj (v.alloc (.cells #[.int .i64 P, .int .i64 1, .int .i64 0] 50)).drew mb o := ⟨_, rfl⟩
        rw [← hv3] at hmu hrep2
        have hu3 : Upd (fun i => i = mb) wr v3 := by rw [hv3]; exact ((hux.mono (G := fun i => i = mb) (fun _ _ h => h.elim)).putObj (g := mb) (.inr rfl) o)
        have hs1 : PStep wr v3 base pb mb gb E' K E2 := ⟨hrep2, hu3.mono (fun i _ h => .inr (.inl h)), fun i hi ho => by
          rcases ho with h1 | h1 | h1 | ⟨x, hx, rfl⟩
          · exact .inl h1
          · exact .inr (.inl h1)
          · exact .inr (.inr (.inl h1))
          · rcases hE2 x hx with ⟨h2, _⟩ | ⟨h2, _⟩
            · exact .inr (.inr (.inr ⟨x, h2, rfl⟩))
            · rw [h2] at hi
              exact absurd hi (by show ¬ v.heap.size < _; omega)⟩
        have hrE2 : r ∈ E2 := hE2' r hrE (by
          have h1 := (H.out.ok r HR.out).key_div
          show r.key ≠ Q
          omega)
        have hv' := hs1.ints hrep hv
        have k1 : v3.cell? ⟨wr.heap.size, 1, none⟩ = some (.int .i64 Q) := by
          have hne : ¬ wr.heap.size = mb := fun e => by have := hrep.lt mb (.inr (.inl rfl)); omega
          rw [hv3]
          exact (((hob.alloc _).drew).putObj hne o).cell 1
        obtain ⟨A', n', c', w5, hap, hv5, hu5⟩ := hv'.app ((Q : Nat) : Int) (Nat.le_trans hs.upd.size hs1.upd.size) (by rw [nums_len]; omega)
        have hs5 := (hs.trans hs1).aside hu5 (fun i hi hg => by
          obtain ⟨_, cs, hb⟩ := hv'.blk hg
          exact hs1.rep.not_own hb hi) (fun i hg => (hv'.blk hg).1)
        have hn5 : nums (1 * 256) (r.base + m1) 2 j ++ [((Q : Nat) : Int)] = nums (1 * 256) (r.base + m1) 2 (j + 1) := by
          rw [nums_succ]
          congr 2
          omega
        rw [hn5] at hv5
        have hl5 : E2.length ≤ E.length + (j + 1) := by omega
        have HA := Lib.hid hap
        have HV5 := Lib.hid hv5
        have HS5 := Lib.hid hs5
        have HV3 := Lib.hid hv3
        have HE5 := Lib.hid (And.intro hrE2 hl5)
        have HMU := Lib.hid hmu
        clear hs hv hm hrep hP hv0 huv hob hs1 hv3 hv' hap hv5 hu5 hs5 hn5 hux hrb hmu hrep2 hE2 hE2' hlen2 hu3 hrE2 hl5 hvz hrE hEl hQ
        go_wp2_with fail
        rw [← HV0.out]
        have hmu := HMU.out
        go_region
        all_goals
          clear hmu
          go_wp2_with (at_builtin; refine Lib.wpList_append_run _ rfl _ _ _ _ rfl _ _ rfl rfl _ _ HA.out ?_)
          go_roundw
          case rel => exact ⟨j + 1, _, by omega, by go_num, by rw [HM.out]; go_num, HV5.out, HS5.out, HE5.out.1, HE5.out.2⟩
          case measure => simp [intOf]; omega
      · obtain rfl : cnt = j := by omega
        have q2 : wr.cell? ⟨r.blk, 2, none⟩ = some (.int .i64 r.mark) := (hrep.reg r hrE).cell 2
        have q3 : wr.frozen? ⟨r.blk, 2, none⟩ = false := (hrep.reg r hrE).frozen 2
        have hs1 := hrep.setMark hrE m (by rw [← HN.out]; omega)
        have hv' := hs1.ints hrep hv
        have HS1 := Lib.hid (hs.trans hs1)
        have HV' := Lib.hid hv'
        have HEL := Lib.hid hEl
        clear hs hv hm hrep hs1 hv' hrE hEl
        go_wp2_with fail
        go_ret2
        unfold GiveU
        refine .inr ⟨by omega, by rw [HM0.out, ← HM1.out, ← HN.out]; omega, _, _, _, rfl, by rw [HM0.out, ← HM1.out]; exact HV'.out, HS1.out, by have := HEL.out; unfold setMark; simpa using this⟩

set_option maxRecDepth 100000 in
set_option maxHeartbeats 8000000 in
theorem give_unt1c (h : PRep w base pb mb gb K E) {r : Reg} (hr : r ∈ E) (cnt : Nat) (hc : 1 ≤ cnt) (hc2 : cnt ≤ 32) (hcl : clearB K E r = true) (hro : 1 < r.ord) :
    Calls Try.prog 10 #[.pointer (some ⟨pb, 0, none⟩), .int .i64 r.key, .int .i64 1, .int .i64 1, .int .i64 cnt] w fun e w' => GiveU w w' base pb mb gb K E r 1 2 cnt e := by
  have p0 : w.cell? ⟨pb, 0, none⟩ = some (.map (some mb)) := h.pool.cell 0
  have r2 : w.cell? ⟨r.blk, 2, none⟩ = some (.int .i64 r.mark) := (h.reg r hr).cell 2
  have hl := h.look_yes hr
  have HC := Lib.hid (clear_ok h hr)
  rw [hcl] at HC
  have hm0 : mk0 K E r = 0 := by unfold mk0; rw [hcl]; rfl
  have HM0 := Lib.hid hm0
  have H := Lib.hid h
  have HR := Lib.hid hr
  have hok := h.ok r hr
  have ho := hok.ord
  have ht := hok.top
  have hmk := hok.mark
  have HAL := Lib.hid (show r.base % 2 = 0 by
    have h1 := hok.al
    rcases pow5 ho with ⟨e1, e2⟩ | ⟨e1, e2⟩ | ⟨e1, e2⟩ | ⟨e1, e2⟩ | ⟨e1, e2⟩ | ⟨e1, e2⟩ <;> rw [e1] at h1 <;> omega)
  obtain ⟨N, hN⟩ : ∃ N, N = 2 ^ r.ord := ⟨_, rfl⟩
  have hp : (2 : Int) ^ r.ord = (N : Int) := by rw [hN]; norm_cast
  rw [← hN] at ht hmk
  have hro' : decide (r.ord ≤ 1) = false := by exact decide_eq_false (by omega)
  have HN := Lib.hid hN
  have g3 : decide ((cnt : Int) < 1) = false := decide_eq_false (by omega)
  have g4 : decide ((64 : Int) < (cnt : Int)) = false := decide_eq_false (by omega)
  clear h hr hok hN hcl hm0
  go_enter Try.func10, Try.ntmps10
  go_wp2_with fail
  refine HC.out.mono ?_
  rintro _ w1 ⟨rfl, hu1⟩
  have HU1 := Lib.hid hu1
  have r1 : w1.cell? ⟨r.blk, 1, none⟩ = some (.int .i64 r.ord) := ((H.out.reg r HR.out).upd hu1 (fun h => h)).cell 1
  have HS1 := Lib.hid (H.out.same hu1)
  clear p0 r2 hl HC hu1
  have HM1 := Lib.hid (show 0 = up 0 2 from rfl)
  have HMM := Lib.hid (show 0 % 2 = 0 from rfl)
  by_cases hroom : N < 0 + cnt * 2
  · have hd : decide ((N : Int) < (cnt : Int) * 2) = true := decide_eq_true (by omega)
    go_wp2_with fail
    go_ret2
    unfold GiveU
    exact .inl ⟨fun h => by
      have h2 := h.2
      rw [HM0.out, ← HM1.out, ← HN.out] at h2
      omega, rfl, HU1.out⟩
  · have hd : decide ((N : Int) < (cnt : Int) * 2) = false := decide_eq_false (by omega)
    have hroom' : 0 + cnt * 2 ≤ N := by omega
    clear hroom
    go_wp2_with fail
    go_loopw [13, 15, 96] (fun vm vl vi wr => ∃ (j : Nat) (E' : List Reg), j ≤ cnt ∧ vi = .int .i64 j ∧ vm = .int .i64 (0 + j * 2 : Nat) ∧ IntV wr w.heap.size vl (nums (1 * 256) (r.base + 0) 2 j) ∧ PStep w wr base pb mb gb E K E' ∧ r ∈ E' ∧ E'.length ≤ E.length + j) (fun _ _ i _ => cnt - (intOf i).toNat)
    case atStart => exact ⟨0, E, by omega, rfl, by first | rfl | go_num, IntV.nil _ _, HS1.out, HR.out, by omega⟩
    case round =>
      obtain ⟨j, E', hj, rfl, hvm, hv, hs, hrE, hEl⟩ := hrel
      obtain ⟨m, hm⟩ : ∃ m, m = 0 + j * 2 := ⟨_, rfl⟩
      rw [← hm] at hvm
      subst hvm
      have hrep := hs.rep
      have HS := Lib.hid hs
      have HV := Lib.hid hv
      have HM := Lib.hid hm
      obtain ⟨A0, cap0, rfl, _⟩ := hv.shape
      rcases Nat.lt_or_ge j cnt with hlt | hge
      · obtain ⟨P, hP⟩ : ∃ P, P = r.base + m := ⟨_, rfl⟩
        have hP64 : P + 2 ≤ 64 := by omega
        have eP : (r.base : Int) + (m : Int) = (P : Int) := by omega
        obtain ⟨Q, hQ⟩ : ∃ Q, Q = P + 256 := ⟨_, rfl⟩
        have eQ : (P : Int) + 256 = (Q : Int) := by omega
        have hQb : Q ≤ 1000 := by omega
        have HQ := Lib.hid hQ
        have HP := Lib.hid hP
        obtain ⟨v, hv0⟩ : ∃ v : World, v = wr.alloc (.cells #[.int .i64 1, .int .i64 Q] 28) := ⟨_, rfl⟩
        have huv : Upd (fun _ => False) wr v := by rw [hv0]; exact (Upd.refl _ _).alloc _
        have hob : Blk v wr.heap.size 28 #[.int .i64 1, .int .i64 Q] := by rw [hv0]; exact Blk.new wr _ _
        have hvz : v.heap.size = wr.heap.size + 1 := by rw [hv0, World.alloc]; simp only [Array.size_push]
        have HV0 := Lib.hid hv0
        have r0 : wr.cell? ⟨r.blk, 0, none⟩ = some (.int .i64 r.base) := (hrep.reg r hrE).cell 0
        have r0' : v.cell? ⟨r.blk, 0, none⟩ = some (.int .i64 r.base) := ((hrep.reg r hrE).upd huv (fun h => h)).cell 0
        have p0 : v.cell? ⟨pb, 0, none⟩ = some (.map (some mb)) := (hrep.pool.upd huv (fun h => h)).cell 0
        have b0 : v.cell? ⟨wr.heap.size, 0, none⟩ = some (.int .i64 1) := hob.cell 0
        have b1 : v.cell? ⟨wr.heap.size, 1, none⟩ = some (.int .i64 Q) := hob.cell 1
        have l1 : wr.heap.size < v.heap.size := by omega
        have l2 : pb < v.heap.size := (hrep.pool.upd huv (fun h => h)).lt
        have l3 : r.blk < v.heap.size := ((hrep.reg r hrE).upd huv (fun h => h)).lt
        have hux : Upd (fun _ => False) wr (v.alloc (.cells #[.int .i64 P, .int .i64 1, .int .i64 0] 50)).drew := (huv.alloc _).drew
        have hrb : Blk (v.alloc (.cells #[.int .i64 P, .int .i64 1, .int .i64 0] 50)).drew v.heap.size 50 #[.int .i64 P, .int .i64 1, .int .i64 0] := (Blk.new v _ _).drew
        obtain ⟨o, E2, hmu, hrep2, hE2, hE2', hlen2⟩ := (hrep.grow hux (fun _ _ h => h)).putReg ⟨Q, P, 1, 0, v.heap.size, 0⟩ hrb (fun hi => by have h7 : v.heap.size < wr.heap.size := hrep.lt _ hi; omega) (by have := hrep.low _ (.inl rfl); have := hrep.pool.lt; show base ≤ v.heap.size; omega)
          ⟨by show Q = 1 * 256 + P; omega, by show 1 ≤ 5; omega, by show P % 2 ^ 1 = 0; have := HAL.out; have := HMM.out; simp only [Nat.reducePow]; omega, by show P + 2 ^ 1 ≤ 64; simp only [Nat.reducePow]; omega, Nat.zero_le _⟩ (by show Q ≠ 1312; omega)
        obtain ⟨v3, hv3⟩ : ∃ v3 : World, v3 = putObj (v.alloc (.cells #[.int .i64 P, .int .i64 1, .int .i64 0] 50)).drew mb o := ⟨_, rfl⟩
        rw [← hv3] at hmu hrep2
        have hu3 : Upd (fun i => i = mb) wr v3 := by rw [hv3]; exact ((hux.mono (G := fun i => i = mb) (fun _ _ h => h.elim)).putObj (g := mb) (.inr rfl) o)
        have hs1 : PStep wr v3 base pb mb gb E' K E2 := ⟨hrep2, hu3.mono (fun i _ h => .inr (.inl h)), fun i hi ho => by
          rcases ho with h1 | h1 | h1 | ⟨x, hx, rfl⟩
          · exact .inl h1
          · exact .inr (.inl h1)
          · exact .inr (.inr (.inl h1))
          · rcases hE2 x hx with ⟨h2, _⟩ | ⟨h2, _⟩
            · exact .inr (.inr (.inr ⟨x, h2, rfl⟩))
            · rw [h2] at hi
              exact absurd hi (by show ¬ v.heap.size < _; omega)⟩
        have hrE2 : r ∈ E2 := hE2' r hrE (by
          have h1 := (H.out.ok r HR.out).key_div
          show r.key ≠ Q
          omega)
        have hv' := hs1.ints hrep hv
        have k1 : v3.cell? ⟨wr.heap.size, 1, none⟩ = some (.int .i64 Q) := by
          have hne : ¬ wr.heap.size = mb := fun e => by have := hrep.lt mb (.inr (.inl rfl)); omega
          rw [hv3]
          exact (((hob.alloc _).drew).putObj hne o).cell 1
        obtain ⟨A', n', c', w5, hap, hv5, hu5⟩ := hv'.app ((Q : Nat) : Int) (Nat.le_trans hs.upd.size hs1.upd.size) (by rw [nums_len]; omega)
        have hs5 := (hs.trans hs1).aside hu5 (fun i hi hg => by
          obtain ⟨_, cs, hb⟩ := hv'.blk hg
          exact hs1.rep.not_own hb hi) (fun i hg => (hv'.blk hg).1)
        have hn5 : nums (1 * 256) (r.base + 0) 2 j ++ [((Q : Nat) : Int)] = nums (1 * 256) (r.base + 0) 2 (j + 1) := by
          rw [nums_succ]
          congr 2
          omega
        rw [hn5] at hv5
        have hl5 : E2.length ≤ E.length + (j + 1) := by omega
        have HA := Lib.hid hap
        have HV5 := Lib.hid hv5
        have HS5 := Lib.hid hs5
        have HV3 := Lib.hid hv3
        have HE5 := Lib.hid (And.intro hrE2 hl5)
        have HMU := Lib.hid hmu
        clear hs hv hm hrep hP hv0 huv hob hs1 hv3 hv' hap hv5 hu5 hs5 hn5 hux hrb hmu hrep2 hE2 hE2' hlen2 hu3 hrE2 hl5 hvz hrE hEl hQ
        go_wp2_with fail
        rw [← HV0.out]
        have hmu := HMU.out
        go_region
        all_goals
          clear hmu
          go_wp2_with (at_builtin; refine Lib.wpList_append_run _ rfl _ _ _ _ rfl _ _ rfl rfl _ _ HA.out ?_)
          go_roundw
          case rel => exact ⟨j + 1, _, by omega, by go_num, by rw [HM.out]; go_num, HV5.out, HS5.out, HE5.out.1, HE5.out.2⟩
          case measure => simp [intOf]; omega
      · obtain rfl : cnt = j := by omega
        have q2 : wr.cell? ⟨r.blk, 2, none⟩ = some (.int .i64 r.mark) := (hrep.reg r hrE).cell 2
        have q3 : wr.frozen? ⟨r.blk, 2, none⟩ = false := (hrep.reg r hrE).frozen 2
        have hs1 := hrep.setMark hrE m (by rw [← HN.out]; omega)
        have hv' := hs1.ints hrep hv
        have HS1 := Lib.hid (hs.trans hs1)
        have HV' := Lib.hid hv'
        have HEL := Lib.hid hEl
        clear hs hv hm hrep hs1 hv' hrE hEl
        go_wp2_with fail
        go_ret2
        unfold GiveU
        refine .inr ⟨by omega, by rw [HM0.out, ← HM1.out, ← HN.out]; omega, _, _, _, rfl, by rw [HM0.out, ← HM1.out]; exact HV'.out, HS1.out, by have := HEL.out; unfold setMark; simpa using this⟩

set_option maxRecDepth 100000 in
set_option maxHeartbeats 8000000 in
theorem give_unt2 (h : PRep w base pb mb gb K E) {r : Reg} (hr : r ∈ E) (cnt : Nat) (hc : 1 ≤ cnt) (hc2 : cnt ≤ 32) (hcl : clearB K E r = false) (hro : 2 < r.ord) :
    Calls Try.prog 10 #[.pointer (some ⟨pb, 0, none⟩), .int .i64 r.key, .int .i64 1, .int .i64 2, .int .i64 cnt] w fun e w' => GiveU w w' base pb mb gb K E r 2 4 cnt e := by
  have p0 : w.cell? ⟨pb, 0, none⟩ = some (.map (some mb)) := h.pool.cell 0
  have r2 : w.cell? ⟨r.blk, 2, none⟩ = some (.int .i64 r.mark) := (h.reg r hr).cell 2
  have hl := h.look_yes hr
  have HC := Lib.hid (clear_ok h hr)
  rw [hcl] at HC
  have hm0 : mk0 K E r = r.mark := by unfold mk0; rw [hcl]; rfl
  have HM0 := Lib.hid hm0
  have H := Lib.hid h
  have HR := Lib.hid hr
  have hok := h.ok r hr
  have ho := hok.ord
  have ht := hok.top
  have hmk := hok.mark
  have HAL := Lib.hid (show r.base % 4 = 0 by
    have h1 := hok.al
    rcases pow5 ho with ⟨e1, e2⟩ | ⟨e1, e2⟩ | ⟨e1, e2⟩ | ⟨e1, e2⟩ | ⟨e1, e2⟩ | ⟨e1, e2⟩ <;> rw [e1] at h1 <;> omega)
  obtain ⟨N, hN⟩ : ∃ N, N = 2 ^ r.ord := ⟨_, rfl⟩
  have hp : (2 : Int) ^ r.ord = (N : Int) := by rw [hN]; norm_cast
  rw [← hN] at ht hmk
  have hro' : decide (r.ord ≤ 2) = false := by exact decide_eq_false (by omega)
  have HN := Lib.hid hN
  have g3 : decide ((cnt : Int) < 1) = false := decide_eq_false (by omega)
  have g4 : decide ((64 : Int) < (cnt : Int)) = false := decide_eq_false (by omega)
  clear h hr hok hN hcl hm0
  go_enter Try.func10, Try.ntmps10
  go_wp2_with fail
  refine HC.out.mono ?_
  rintro _ w1 ⟨rfl, hu1⟩
  have HU1 := Lib.hid hu1
  have r1 : w1.cell? ⟨r.blk, 1, none⟩ = some (.int .i64 r.ord) := ((H.out.reg r HR.out).upd hu1 (fun h => h)).cell 1
  have HS1 := Lib.hid (H.out.same hu1)
  clear p0 r2 hl HC hu1
  obtain ⟨m1, hm1⟩ : ∃ m1, m1 = up r.mark 4 := ⟨_, rfl⟩
  have HM1 := Lib.hid hm1
  have em1 : ((r.mark : Int) + 4 - 1) / 4 * 4 = (m1 : Int) := by unfold up at hm1; omega
  have HMM := Lib.hid (show m1 % 4 = 0 by unfold up at hm1; omega)
  clear hm1
  by_cases hroom : N < m1 + cnt * 4
  · have hd : decide ((N : Int) < (m1 : Int) + (cnt : Int) * 4) = true := decide_eq_true (by omega)
    go_wp2_with fail
    go_ret2
    unfold GiveU
    exact .inl ⟨fun h => by
      have h2 := h.2
      rw [HM0.out, ← HM1.out, ← HN.out] at h2
      omega, rfl, HU1.out⟩
  · have hd : decide ((N : Int) < (m1 : Int) + (cnt : Int) * 4) = false := decide_eq_false (by omega)
    have hroom' : m1 + cnt * 4 ≤ N := by omega
    clear hroom
    go_wp2_with fail
    go_loopw [13, 15, 96] (fun vm vl vi wr => ∃ (j : Nat) (E' : List Reg), j ≤ cnt ∧ vi = .int .i64 j ∧ vm = .int .i64 (m1 + j * 4 : Nat) ∧ IntV wr w.heap.size vl (nums (2 * 256) (r.base + m1) 4 j) ∧ PStep w wr base pb mb gb E K E' ∧ r ∈ E' ∧ E'.length ≤ E.length + j) (fun _ _ i _ => cnt - (intOf i).toNat)
    case atStart => exact ⟨0, E, by omega, rfl, by first | rfl | go_num, IntV.nil _ _, HS1.out, HR.out, by omega⟩
    case round =>
      obtain ⟨j, E', hj, rfl, hvm, hv, hs, hrE, hEl⟩ := hrel
      obtain ⟨m, hm⟩ : ∃ m, m = m1 + j * 4 := ⟨_, rfl⟩
      rw [← hm] at hvm
      subst hvm
      have hrep := hs.rep
      have HS := Lib.hid hs
      have HV := Lib.hid hv
      have HM := Lib.hid hm
      obtain ⟨A0, cap0, rfl, _⟩ := hv.shape
      rcases Nat.lt_or_ge j cnt with hlt | hge
      · obtain ⟨P, hP⟩ : ∃ P, P = r.base + m := ⟨_, rfl⟩
        have hP64 : P + 4 ≤ 64 := by omega
        have eP : (r.base : Int) + (m : Int) = (P : Int) := by omega
        obtain ⟨Q, hQ⟩ : ∃ Q, Q = P + 512 := ⟨_, rfl⟩
        have eQ : (P : Int) + 512 = (Q : Int) := by omega
        have hQb : Q ≤ 1000 := by omega
        have HQ := Lib.hid hQ
        have HP := Lib.hid hP
        obtain ⟨v, hv0⟩ : ∃ v : World, v = wr.alloc (.cells #[.int .i64 1, .int .i64 Q] 28) := ⟨_, rfl⟩
        have huv : Upd (fun _ => False) wr v := by rw [hv0]; exact (Upd.refl _ _).alloc _
        have hob : Blk v wr.heap.size 28 #[.int .i64 1, .int .i64 Q] := by rw [hv0]; exact Blk.new wr _ _
        have hvz : v.heap.size = wr.heap.size + 1 := by rw [hv0, World.alloc]; simp only [Array.size_push]
        have HV0 := Lib.hid hv0
        have r0 : wr.cell? ⟨r.blk, 0, none⟩ = some (.int .i64 r.base) := (hrep.reg r hrE).cell 0
        have r0' : v.cell? ⟨r.blk, 0, none⟩ = some (.int .i64 r.base) := ((hrep.reg r hrE).upd huv (fun h => h)).cell 0
        have p0 : v.cell? ⟨pb, 0, none⟩ = some (.map (some mb)) := (hrep.pool.upd huv (fun h => h)).cell 0
        have b0 : v.cell? ⟨wr.heap.size, 0, none⟩ = some (.int .i64 1) := hob.cell 0
        have b1 : v.cell? ⟨wr.heap.size, 1, none⟩ = some (.int .i64 Q) := hob.cell 1
        have l1 : wr.heap.size < v.heap.size := by omega
        have l2 : pb < v.heap.size := (hrep.pool.upd huv (fun h => h)).lt
        have l3 : r.blk < v.heap.size := ((hrep.reg r hrE).upd huv (fun h => h)).lt
        have hux : Upd (fun _ => False) wr (v.alloc (.cells #[.int .i64 P, .int .i64 2, .int .i64 0] 50)).drew := (huv.alloc _).drew
        have hrb : Blk (v.alloc (.cells #[.int .i64 P, .int .i64 2, .int .i64 0] 50)).drew v.heap.size 50 #[.int .i64 P, .int .i64 2, .int .i64 0] := (Blk.new v _ _).drew
        obtain ⟨o, E2, hmu, hrep2, hE2, hE2', hlen2⟩ := (hrep.grow hux (fun _ _ h => h)).putReg ⟨Q, P, 2, 0, v.heap.size, 0⟩ hrb (fun hi => by have h7 : v.heap.size < wr.heap.size := hrep.lt _ hi; omega) (by have := hrep.low _ (.inl rfl); have := hrep.pool.lt; show base ≤ v.heap.size; omega)
          ⟨by show Q = 2 * 256 + P; omega, by show 2 ≤ 5; omega, by show P % 2 ^ 2 = 0; have := HAL.out; have := HMM.out; simp only [Nat.reducePow]; omega, by show P + 2 ^ 2 ≤ 64; simp only [Nat.reducePow]; omega, Nat.zero_le _⟩ (by show Q ≠ 1312; omega)
        obtain ⟨v3, hv3⟩ : ∃ v3 : World, v3 = putObj (v.alloc (.cells #[.int .i64 P, .int .i64 2, .int .i64 0] 50)).drew mb o := ⟨_, rfl⟩
        rw [← hv3] at hmu hrep2
        have hu3 : Upd (fun i => i = mb) wr v3 := by rw [hv3]; exact ((hux.mono (G := fun i => i = mb) (fun _ _ h => h.elim)).putObj (g := mb) (.inr rfl) o)
        have hs1 : PStep wr v3 base pb mb gb E' K E2 := ⟨hrep2, hu3.mono (fun i _ h => .inr (.inl h)), fun i hi ho => by
          rcases ho with h1 | h1 | h1 | ⟨x, hx, rfl⟩
          · exact .inl h1
          · exact .inr (.inl h1)
          · exact .inr (.inr (.inl h1))
          · rcases hE2 x hx with ⟨h2, _⟩ | ⟨h2, _⟩
            · exact .inr (.inr (.inr ⟨x, h2, rfl⟩))
            · rw [h2] at hi
              exact absurd hi (by show ¬ v.heap.size < _; omega)⟩
        have hrE2 : r ∈ E2 := hE2' r hrE (by
          have h1 := (H.out.ok r HR.out).key_div
          show r.key ≠ Q
          omega)
        have hv' := hs1.ints hrep hv
        have k1 : v3.cell? ⟨wr.heap.size, 1, none⟩ = some (.int .i64 Q) := by
          have hne : ¬ wr.heap.size = mb := fun e => by have := hrep.lt mb (.inr (.inl rfl)); omega
          rw [hv3]
          exact (((hob.alloc _).drew).putObj hne o).cell 1
        obtain ⟨A', n', c', w5, hap, hv5, hu5⟩ := hv'.app ((Q : Nat) : Int) (Nat.le_trans hs.upd.size hs1.upd.size) (by rw [nums_len]; omega)
        have hs5 := (hs.trans hs1).aside hu5 (fun i hi hg => by
          obtain ⟨_, cs, hb⟩ := hv'.blk hg
          exact hs1.rep.not_own hb hi) (fun i hg => (hv'.blk hg).1)
        have hn5 : nums (2 * 256) (r.base + m1) 4 j ++ [((Q : Nat) : Int)] = nums (2 * 256) (r.base + m1) 4 (j + 1) := by
          rw [nums_succ]
          congr 2
          omega
        rw [hn5] at hv5
        have hl5 : E2.length ≤ E.length + (j + 1) := by omega
        have HA := Lib.hid hap
        have HV5 := Lib.hid hv5
        have HS5 := Lib.hid hs5
        have HV3 := Lib.hid hv3
        have HE5 := Lib.hid (And.intro hrE2 hl5)
        have HMU := Lib.hid hmu
        clear hs hv hm hrep hP hv0 huv hob hs1 hv3 hv' hap hv5 hu5 hs5 hn5 hux hrb hmu hrep2 hE2 hE2' hlen2 hu3 hrE2 hl5 hvz hrE hEl hQ
        go_wp2_with fail
        rw [← HV0.out]
        have hmu := HMU.out
        go_region
        all_goals
          clear hmu
          go_wp2_with (at_builtin; refine Lib.wpList_append_run _ rfl _ _ _ _ rfl _ _ rfl rfl _ _ HA.out ?_)
          go_roundw
          case rel => exact ⟨j + 1, _, by omega, by go_num, by rw [HM.out]; go_num, HV5.out, HS5.out, HE5.out.1, HE5.out.2⟩
          case measure => simp [intOf]; omega
      · obtain rfl : cnt = j := by omega
        have q2 : wr.cell? ⟨r.blk, 2, none⟩ = some (.int .i64 r.mark) := (hrep.reg r hrE).cell 2
        have q3 : wr.frozen? ⟨r.blk, 2, none⟩ = false := (hrep.reg r hrE).frozen 2
        have hs1 := hrep.setMark hrE m (by rw [← HN.out]; omega)
        have hv' := hs1.ints hrep hv
        have HS1 := Lib.hid (hs.trans hs1)
        have HV' := Lib.hid hv'
        have HEL := Lib.hid hEl
        clear hs hv hm hrep hs1 hv' hrE hEl
        go_wp2_with fail
        go_ret2
        unfold GiveU
        refine .inr ⟨by omega, by rw [HM0.out, ← HM1.out, ← HN.out]; omega, _, _, _, rfl, by rw [HM0.out, ← HM1.out]; exact HV'.out, HS1.out, by have := HEL.out; unfold setMark; simpa using this⟩

set_option maxRecDepth 100000 in
set_option maxHeartbeats 8000000 in
theorem give_unt2c (h : PRep w base pb mb gb K E) {r : Reg} (hr : r ∈ E) (cnt : Nat) (hc : 1 ≤ cnt) (hc2 : cnt ≤ 32) (hcl : clearB K E r = true) (hro : 2 < r.ord) :
    Calls Try.prog 10 #[.pointer (some ⟨pb, 0, none⟩), .int .i64 r.key, .int .i64 1, .int .i64 2, .int .i64 cnt] w fun e w' => GiveU w w' base pb mb gb K E r 2 4 cnt e := by
  have p0 : w.cell? ⟨pb, 0, none⟩ = some (.map (some mb)) := h.pool.cell 0
  have r2 : w.cell? ⟨r.blk, 2, none⟩ = some (.int .i64 r.mark) := (h.reg r hr).cell 2
  have hl := h.look_yes hr
  have HC := Lib.hid (clear_ok h hr)
  rw [hcl] at HC
  have hm0 : mk0 K E r = 0 := by unfold mk0; rw [hcl]; rfl
  have HM0 := Lib.hid hm0
  have H := Lib.hid h
  have HR := Lib.hid hr
  have hok := h.ok r hr
  have ho := hok.ord
  have ht := hok.top
  have hmk := hok.mark
  have HAL := Lib.hid (show r.base % 4 = 0 by
    have h1 := hok.al
    rcases pow5 ho with ⟨e1, e2⟩ | ⟨e1, e2⟩ | ⟨e1, e2⟩ | ⟨e1, e2⟩ | ⟨e1, e2⟩ | ⟨e1, e2⟩ <;> rw [e1] at h1 <;> omega)
  obtain ⟨N, hN⟩ : ∃ N, N = 2 ^ r.ord := ⟨_, rfl⟩
  have hp : (2 : Int) ^ r.ord = (N : Int) := by rw [hN]; norm_cast
  rw [← hN] at ht hmk
  have hro' : decide (r.ord ≤ 2) = false := by exact decide_eq_false (by omega)
  have HN := Lib.hid hN
  have g3 : decide ((cnt : Int) < 1) = false := decide_eq_false (by omega)
  have g4 : decide ((64 : Int) < (cnt : Int)) = false := decide_eq_false (by omega)
  clear h hr hok hN hcl hm0
  go_enter Try.func10, Try.ntmps10
  go_wp2_with fail
  refine HC.out.mono ?_
  rintro _ w1 ⟨rfl, hu1⟩
  have HU1 := Lib.hid hu1
  have r1 : w1.cell? ⟨r.blk, 1, none⟩ = some (.int .i64 r.ord) := ((H.out.reg r HR.out).upd hu1 (fun h => h)).cell 1
  have HS1 := Lib.hid (H.out.same hu1)
  clear p0 r2 hl HC hu1
  have HM1 := Lib.hid (show 0 = up 0 4 from rfl)
  have HMM := Lib.hid (show 0 % 4 = 0 from rfl)
  by_cases hroom : N < 0 + cnt * 4
  · have hd : decide ((N : Int) < (cnt : Int) * 4) = true := decide_eq_true (by omega)
    go_wp2_with fail
    go_ret2
    unfold GiveU
    exact .inl ⟨fun h => by
      have h2 := h.2
      rw [HM0.out, ← HM1.out, ← HN.out] at h2
      omega, rfl, HU1.out⟩
  · have hd : decide ((N : Int) < (cnt : Int) * 4) = false := decide_eq_false (by omega)
    have hroom' : 0 + cnt * 4 ≤ N := by omega
    clear hroom
    go_wp2_with fail
    go_loopw [13, 15, 96] (fun vm vl vi wr => ∃ (j : Nat) (E' : List Reg), j ≤ cnt ∧ vi = .int .i64 j ∧ vm = .int .i64 (0 + j * 4 : Nat) ∧ IntV wr w.heap.size vl (nums (2 * 256) (r.base + 0) 4 j) ∧ PStep w wr base pb mb gb E K E' ∧ r ∈ E' ∧ E'.length ≤ E.length + j) (fun _ _ i _ => cnt - (intOf i).toNat)
    case atStart => exact ⟨0, E, by omega, rfl, by first | rfl | go_num, IntV.nil _ _, HS1.out, HR.out, by omega⟩
    case round =>
      obtain ⟨j, E', hj, rfl, hvm, hv, hs, hrE, hEl⟩ := hrel
      obtain ⟨m, hm⟩ : ∃ m, m = 0 + j * 4 := ⟨_, rfl⟩
      rw [← hm] at hvm
      subst hvm
      have hrep := hs.rep
      have HS := Lib.hid hs
      have HV := Lib.hid hv
      have HM := Lib.hid hm
      obtain ⟨A0, cap0, rfl, _⟩ := hv.shape
      rcases Nat.lt_or_ge j cnt with hlt | hge
      · obtain ⟨P, hP⟩ : ∃ P, P = r.base + m := ⟨_, rfl⟩
        have hP64 : P + 4 ≤ 64 := by omega
        have eP : (r.base : Int) + (m : Int) = (P : Int) := by omega
        obtain ⟨Q, hQ⟩ : ∃ Q, Q = P + 512 := ⟨_, rfl⟩
        have eQ : (P : Int) + 512 = (Q : Int) := by omega
        have hQb : Q ≤ 1000 := by omega
        have HQ := Lib.hid hQ
        have HP := Lib.hid hP
        obtain ⟨v, hv0⟩ : ∃ v : World, v = wr.alloc (.cells #[.int .i64 1, .int .i64 Q] 28) := ⟨_, rfl⟩
        have huv : Upd (fun _ => False) wr v := by rw [hv0]; exact (Upd.refl _ _).alloc _
        have hob : Blk v wr.heap.size 28 #[.int .i64 1, .int .i64 Q] := by rw [hv0]; exact Blk.new wr _ _
        have hvz : v.heap.size = wr.heap.size + 1 := by rw [hv0, World.alloc]; simp only [Array.size_push]
        have HV0 := Lib.hid hv0
        have r0 : wr.cell? ⟨r.blk, 0, none⟩ = some (.int .i64 r.base) := (hrep.reg r hrE).cell 0
        have r0' : v.cell? ⟨r.blk, 0, none⟩ = some (.int .i64 r.base) := ((hrep.reg r hrE).upd huv (fun h => h)).cell 0
        have p0 : v.cell? ⟨pb, 0, none⟩ = some (.map (some mb)) := (hrep.pool.upd huv (fun h => h)).cell 0
        have b0 : v.cell? ⟨wr.heap.size, 0, none⟩ = some (.int .i64 1) := hob.cell 0
        have b1 : v.cell? ⟨wr.heap.size, 1, none⟩ = some (.int .i64 Q) := hob.cell 1
        have l1 : wr.heap.size < v.heap.size := by omega
        have l2 : pb < v.heap.size := (hrep.pool.upd huv (fun h => h)).lt
        have l3 : r.blk < v.heap.size := ((hrep.reg r hrE).upd huv (fun h => h)).lt
        have hux : Upd (fun _ => False) wr (v.alloc (.cells #[.int .i64 P, .int .i64 2, .int .i64 0] 50)).drew := (huv.alloc _).drew
        have hrb : Blk (v.alloc (.cells #[.int .i64 P, .int .i64 2, .int .i64 0] 50)).drew v.heap.size 50 #[.int .i64 P, .int .i64 2, .int .i64 0] := (Blk.new v _ _).drew
        obtain ⟨o, E2, hmu, hrep2, hE2, hE2', hlen2⟩ := (hrep.grow hux (fun _ _ h => h)).putReg ⟨Q, P, 2, 0, v.heap.size, 0⟩ hrb (fun hi => by have h7 : v.heap.size < wr.heap.size := hrep.lt _ hi; omega) (by have := hrep.low _ (.inl rfl); have := hrep.pool.lt; show base ≤ v.heap.size; omega)
          ⟨by show Q = 2 * 256 + P; omega, by show 2 ≤ 5; omega, by show P % 2 ^ 2 = 0; have := HAL.out; have := HMM.out; simp only [Nat.reducePow]; omega, by show P + 2 ^ 2 ≤ 64; simp only [Nat.reducePow]; omega, Nat.zero_le _⟩ (by show Q ≠ 1312; omega)
        obtain ⟨v3, hv3⟩ : ∃ v3 : World, v3 = putObj (v.alloc (.cells #[.int .i64 P, .int .i64 2, .int .i64 0] 50)).drew mb o := ⟨_, rfl⟩
        rw [← hv3] at hmu hrep2
        have hu3 : Upd (fun i => i = mb) wr v3 := by rw [hv3]; exact ((hux.mono (G := fun i => i = mb) (fun _ _ h => h.elim)).putObj (g := mb) (.inr rfl) o)
        have hs1 : PStep wr v3 base pb mb gb E' K E2 := ⟨hrep2, hu3.mono (fun i _ h => .inr (.inl h)), fun i hi ho => by
          rcases ho with h1 | h1 | h1 | ⟨x, hx, rfl⟩
          · exact .inl h1
          · exact .inr (.inl h1)
          · exact .inr (.inr (.inl h1))
          · rcases hE2 x hx with ⟨h2, _⟩ | ⟨h2, _⟩
            · exact .inr (.inr (.inr ⟨x, h2, rfl⟩))
            · rw [h2] at hi
              exact absurd hi (by show ¬ v.heap.size < _; omega)⟩
        have hrE2 : r ∈ E2 := hE2' r hrE (by
          have h1 := (H.out.ok r HR.out).key_div
          show r.key ≠ Q
          omega)
        have hv' := hs1.ints hrep hv
        have k1 : v3.cell? ⟨wr.heap.size, 1, none⟩ = some (.int .i64 Q) := by
          have hne : ¬ wr.heap.size = mb := fun e => by have := hrep.lt mb (.inr (.inl rfl)); omega
          rw [hv3]
          exact (((hob.alloc _).drew).putObj hne o).cell 1
        obtain ⟨A', n', c', w5, hap, hv5, hu5⟩ := hv'.app ((Q : Nat) : Int) (Nat.le_trans hs.upd.size hs1.upd.size) (by rw [nums_len]; omega)
        have hs5 := (hs.trans hs1).aside hu5 (fun i hi hg => by
          obtain ⟨_, cs, hb⟩ := hv'.blk hg
          exact hs1.rep.not_own hb hi) (fun i hg => (hv'.blk hg).1)
        have hn5 : nums (2 * 256) (r.base + 0) 4 j ++ [((Q : Nat) : Int)] = nums (2 * 256) (r.base + 0) 4 (j + 1) := by
          rw [nums_succ]
          congr 2
          omega
        rw [hn5] at hv5
        have hl5 : E2.length ≤ E.length + (j + 1) := by omega
        have HA := Lib.hid hap
        have HV5 := Lib.hid hv5
        have HS5 := Lib.hid hs5
        have HV3 := Lib.hid hv3
        have HE5 := Lib.hid (And.intro hrE2 hl5)
        have HMU := Lib.hid hmu
        clear hs hv hm hrep hP hv0 huv hob hs1 hv3 hv' hap hv5 hu5 hs5 hn5 hux hrb hmu hrep2 hE2 hE2' hlen2 hu3 hrE2 hl5 hvz hrE hEl hQ
        go_wp2_with fail
        rw [← HV0.out]
        have hmu := HMU.out
        go_region
        all_goals
          clear hmu
          go_wp2_with (at_builtin; refine Lib.wpList_append_run _ rfl _ _ _ _ rfl _ _ rfl rfl _ _ HA.out ?_)
          go_roundw
          case rel => exact ⟨j + 1, _, by omega, by go_num, by rw [HM.out]; go_num, HV5.out, HS5.out, HE5.out.1, HE5.out.2⟩
          case measure => simp [intOf]; omega
      · obtain rfl : cnt = j := by omega
        have q2 : wr.cell? ⟨r.blk, 2, none⟩ = some (.int .i64 r.mark) := (hrep.reg r hrE).cell 2
        have q3 : wr.frozen? ⟨r.blk, 2, none⟩ = false := (hrep.reg r hrE).frozen 2
        have hs1 := hrep.setMark hrE m (by rw [← HN.out]; omega)
        have hv' := hs1.ints hrep hv
        have HS1 := Lib.hid (hs.trans hs1)
        have HV' := Lib.hid hv'
        have HEL := Lib.hid hEl
        clear hs hv hm hrep hs1 hv' hrE hEl
        go_wp2_with fail
        go_ret2
        unfold GiveU
        refine .inr ⟨by omega, by rw [HM0.out, ← HM1.out, ← HN.out]; omega, _, _, _, rfl, by rw [HM0.out, ← HM1.out]; exact HV'.out, HS1.out, by have := HEL.out; unfold setMark; simpa using this⟩

set_option maxRecDepth 100000 in
set_option maxHeartbeats 8000000 in
theorem give_unt3 (h : PRep w base pb mb gb K E) {r : Reg} (hr : r ∈ E) (cnt : Nat) (hc : 1 ≤ cnt) (hc2 : cnt ≤ 32) (hcl : clearB K E r = false) (hro : 3 < r.ord) :
    Calls Try.prog 10 #[.pointer (some ⟨pb, 0, none⟩), .int .i64 r.key, .int .i64 1, .int .i64 3, .int .i64 cnt] w fun e w' => GiveU w w' base pb mb gb K E r 3 8 cnt e := by
  have p0 : w.cell? ⟨pb, 0, none⟩ = some (.map (some mb)) := h.pool.cell 0
  have r2 : w.cell? ⟨r.blk, 2, none⟩ = some (.int .i64 r.mark) := (h.reg r hr).cell 2
  have hl := h.look_yes hr
  have HC := Lib.hid (clear_ok h hr)
  rw [hcl] at HC
  have hm0 : mk0 K E r = r.mark := by unfold mk0; rw [hcl]; rfl
  have HM0 := Lib.hid hm0
  have H := Lib.hid h
  have HR := Lib.hid hr
  have hok := h.ok r hr
  have ho := hok.ord
  have ht := hok.top
  have hmk := hok.mark
  have HAL := Lib.hid (show r.base % 8 = 0 by
    have h1 := hok.al
    rcases pow5 ho with ⟨e1, e2⟩ | ⟨e1, e2⟩ | ⟨e1, e2⟩ | ⟨e1, e2⟩ | ⟨e1, e2⟩ | ⟨e1, e2⟩ <;> rw [e1] at h1 <;> omega)
  obtain ⟨N, hN⟩ : ∃ N, N = 2 ^ r.ord := ⟨_, rfl⟩
  have hp : (2 : Int) ^ r.ord = (N : Int) := by rw [hN]; norm_cast
  rw [← hN] at ht hmk
  have hro' : decide (r.ord ≤ 3) = false := by exact decide_eq_false (by omega)
  have HN := Lib.hid hN
  have g3 : decide ((cnt : Int) < 1) = false := decide_eq_false (by omega)
  have g4 : decide ((64 : Int) < (cnt : Int)) = false := decide_eq_false (by omega)
  clear h hr hok hN hcl hm0
  go_enter Try.func10, Try.ntmps10
  go_wp2_with fail
  refine HC.out.mono ?_
  rintro _ w1 ⟨rfl, hu1⟩
  have HU1 := Lib.hid hu1
  have r1 : w1.cell? ⟨r.blk, 1, none⟩ = some (.int .i64 r.ord) := ((H.out.reg r HR.out).upd hu1 (fun h => h)).cell 1
  have HS1 := Lib.hid (H.out.same hu1)
  clear p0 r2 hl HC hu1
  obtain ⟨m1, hm1⟩ : ∃ m1, m1 = up r.mark 8 := ⟨_, rfl⟩
  have HM1 := Lib.hid hm1
  have em1 : ((r.mark : Int) + 8 - 1) / 8 * 8 = (m1 : Int) := by unfold up at hm1; omega
  have HMM := Lib.hid (show m1 % 8 = 0 by unfold up at hm1; omega)
  clear hm1
  by_cases hroom : N < m1 + cnt * 8
  · have hd : decide ((N : Int) < (m1 : Int) + (cnt : Int) * 8) = true := decide_eq_true (by omega)
    go_wp2_with fail
    go_ret2
    unfold GiveU
    exact .inl ⟨fun h => by
      have h2 := h.2
      rw [HM0.out, ← HM1.out, ← HN.out] at h2
      omega, rfl, HU1.out⟩
  · have hd : decide ((N : Int) < (m1 : Int) + (cnt : Int) * 8) = false := decide_eq_false (by omega)
    have hroom' : m1 + cnt * 8 ≤ N := by omega
    clear hroom
    go_wp2_with fail
    go_loopw [13, 15, 96] (fun vm vl vi wr => ∃ (j : Nat) (E' : List Reg), j ≤ cnt ∧ vi = .int .i64 j ∧ vm = .int .i64 (m1 + j * 8 : Nat) ∧ IntV wr w.heap.size vl (nums (3 * 256) (r.base + m1) 8 j) ∧ PStep w wr base pb mb gb E K E' ∧ r ∈ E' ∧ E'.length ≤ E.length + j) (fun _ _ i _ => cnt - (intOf i).toNat)
    case atStart => exact ⟨0, E, by omega, rfl, by first | rfl | go_num, IntV.nil _ _, HS1.out, HR.out, by omega⟩
    case round =>
      obtain ⟨j, E', hj, rfl, hvm, hv, hs, hrE, hEl⟩ := hrel
      obtain ⟨m, hm⟩ : ∃ m, m = m1 + j * 8 := ⟨_, rfl⟩
      rw [← hm] at hvm
      subst hvm
      have hrep := hs.rep
      have HS := Lib.hid hs
      have HV := Lib.hid hv
      have HM := Lib.hid hm
      obtain ⟨A0, cap0, rfl, _⟩ := hv.shape
      rcases Nat.lt_or_ge j cnt with hlt | hge
      · obtain ⟨P, hP⟩ : ∃ P, P = r.base + m := ⟨_, rfl⟩
        have hP64 : P + 8 ≤ 64 := by omega
        have eP : (r.base : Int) + (m : Int) = (P : Int) := by omega
        obtain ⟨Q, hQ⟩ : ∃ Q, Q = P + 768 := ⟨_, rfl⟩
        have eQ : (P : Int) + 768 = (Q : Int) := by omega
        have hQb : Q ≤ 1000 := by omega
        have HQ := Lib.hid hQ
        have HP := Lib.hid hP
        obtain ⟨v, hv0⟩ : ∃ v : World, v = wr.alloc (.cells #[.int .i64 1, .int .i64 Q] 28) := ⟨_, rfl⟩
        have huv : Upd (fun _ => False) wr v := by rw [hv0]; exact (Upd.refl _ _).alloc _
        have hob : Blk v wr.heap.size 28 #[.int .i64 1, .int .i64 Q] := by rw [hv0]; exact Blk.new wr _ _
        have hvz : v.heap.size = wr.heap.size + 1 := by rw [hv0, World.alloc]; simp only [Array.size_push]
        have HV0 := Lib.hid hv0
        have r0 : wr.cell? ⟨r.blk, 0, none⟩ = some (.int .i64 r.base) := (hrep.reg r hrE).cell 0
        have r0' : v.cell? ⟨r.blk, 0, none⟩ = some (.int .i64 r.base) := ((hrep.reg r hrE).upd huv (fun h => h)).cell 0
        have p0 : v.cell? ⟨pb, 0, none⟩ = some (.map (some mb)) := (hrep.pool.upd huv (fun h => h)).cell 0
        have b0 : v.cell? ⟨wr.heap.size, 0, none⟩ = some (.int .i64 1) := hob.cell 0
        have b1 : v.cell? ⟨wr.heap.size, 1, none⟩ = some (.int .i64 Q) := hob.cell 1
        have l1 : wr.heap.size < v.heap.size := by omega
        have l2 : pb < v.heap.size := (hrep.pool.upd huv (fun h => h)).lt
        have l3 : r.blk < v.heap.size := ((hrep.reg r hrE).upd huv (fun h => h)).lt
        have hux : Upd (fun _ => False) wr (v.alloc (.cells #[.int .i64 P, .int .i64 3, .int .i64 0] 50)).drew := (huv.alloc _).drew
        have hrb : Blk (v.alloc (.cells #[.int .i64 P, .int .i64 3, .int .i64 0] 50)).drew v.heap.size 50 #[.int .i64 P, .int .i64 3, .int .i64 0] := (Blk.new v _ _).drew
        obtain ⟨o, E2, hmu, hrep2, hE2, hE2', hlen2⟩ := (hrep.grow hux (fun _ _ h => h)).putReg ⟨Q, P, 3, 0, v.heap.size, 0⟩ hrb (fun hi => by have h7 : v.heap.size < wr.heap.size := hrep.lt _ hi; omega) (by have := hrep.low _ (.inl rfl); have := hrep.pool.lt; show base ≤ v.heap.size; omega)
          ⟨by show Q = 3 * 256 + P; omega, by show 3 ≤ 5; omega, by show P % 2 ^ 3 = 0; have := HAL.out; have := HMM.out; simp only [Nat.reducePow]; omega, by show P + 2 ^ 3 ≤ 64; simp only [Nat.reducePow]; omega, Nat.zero_le _⟩ (by show Q ≠ 1312; omega)
        obtain ⟨v3, hv3⟩ : ∃ v3 : World, v3 = putObj (v.alloc (.cells #[.int .i64 P, .int .i64 3, .int .i64 0] 50)).drew mb o := ⟨_, rfl⟩
        rw [← hv3] at hmu hrep2
        have hu3 : Upd (fun i => i = mb) wr v3 := by rw [hv3]; exact ((hux.mono (G := fun i => i = mb) (fun _ _ h => h.elim)).putObj (g := mb) (.inr rfl) o)
        have hs1 : PStep wr v3 base pb mb gb E' K E2 := ⟨hrep2, hu3.mono (fun i _ h => .inr (.inl h)), fun i hi ho => by
          rcases ho with h1 | h1 | h1 | ⟨x, hx, rfl⟩
          · exact .inl h1
          · exact .inr (.inl h1)
          · exact .inr (.inr (.inl h1))
          · rcases hE2 x hx with ⟨h2, _⟩ | ⟨h2, _⟩
            · exact .inr (.inr (.inr ⟨x, h2, rfl⟩))
            · rw [h2] at hi
              exact absurd hi (by show ¬ v.heap.size < _; omega)⟩
        have hrE2 : r ∈ E2 := hE2' r hrE (by
          have h1 := (H.out.ok r HR.out).key_div
          show r.key ≠ Q
          omega)
        have hv' := hs1.ints hrep hv
        have k1 : v3.cell? ⟨wr.heap.size, 1, none⟩ = some (.int .i64 Q) := by
          have hne : ¬ wr.heap.size = mb := fun e => by have := hrep.lt mb (.inr (.inl rfl)); omega
          rw [hv3]
          exact (((hob.alloc _).drew).putObj hne o).cell 1
        obtain ⟨A', n', c', w5, hap, hv5, hu5⟩ := hv'.app ((Q : Nat) : Int) (Nat.le_trans hs.upd.size hs1.upd.size) (by rw [nums_len]; omega)
        have hs5 := (hs.trans hs1).aside hu5 (fun i hi hg => by
          obtain ⟨_, cs, hb⟩ := hv'.blk hg
          exact hs1.rep.not_own hb hi) (fun i hg => (hv'.blk hg).1)
        have hn5 : nums (3 * 256) (r.base + m1) 8 j ++ [((Q : Nat) : Int)] = nums (3 * 256) (r.base + m1) 8 (j + 1) := by
          rw [nums_succ]
          congr 2
          omega
        rw [hn5] at hv5
        have hl5 : E2.length ≤ E.length + (j + 1) := by omega
        have HA := Lib.hid hap
        have HV5 := Lib.hid hv5
        have HS5 := Lib.hid hs5
        have HV3 := Lib.hid hv3
        have HE5 := Lib.hid (And.intro hrE2 hl5)
        have HMU := Lib.hid hmu
        clear hs hv hm hrep hP hv0 huv hob hs1 hv3 hv' hap hv5 hu5 hs5 hn5 hux hrb hmu hrep2 hE2 hE2' hlen2 hu3 hrE2 hl5 hvz hrE hEl hQ
        go_wp2_with fail
        rw [← HV0.out]
        have hmu := HMU.out
        go_region
        all_goals
          clear hmu
          go_wp2_with (at_builtin; refine Lib.wpList_append_run _ rfl _ _ _ _ rfl _ _ rfl rfl _ _ HA.out ?_)
          go_roundw
          case rel => exact ⟨j + 1, _, by omega, by go_num, by rw [HM.out]; go_num, HV5.out, HS5.out, HE5.out.1, HE5.out.2⟩
          case measure => simp [intOf]; omega
      · obtain rfl : cnt = j := by omega
        have q2 : wr.cell? ⟨r.blk, 2, none⟩ = some (.int .i64 r.mark) := (hrep.reg r hrE).cell 2
        have q3 : wr.frozen? ⟨r.blk, 2, none⟩ = false := (hrep.reg r hrE).frozen 2
        have hs1 := hrep.setMark hrE m (by rw [← HN.out]; omega)
        have hv' := hs1.ints hrep hv
        have HS1 := Lib.hid (hs.trans hs1)
        have HV' := Lib.hid hv'
        have HEL := Lib.hid hEl
        clear hs hv hm hrep hs1 hv' hrE hEl
        go_wp2_with fail
        go_ret2
        unfold GiveU
        refine .inr ⟨by omega, by rw [HM0.out, ← HM1.out, ← HN.out]; omega, _, _, _, rfl, by rw [HM0.out, ← HM1.out]; exact HV'.out, HS1.out, by have := HEL.out; unfold setMark; simpa using this⟩

set_option maxRecDepth 100000 in
set_option maxHeartbeats 8000000 in
theorem give_unt3c (h : PRep w base pb mb gb K E) {r : Reg} (hr : r ∈ E) (cnt : Nat) (hc : 1 ≤ cnt) (hc2 : cnt ≤ 32) (hcl : clearB K E r = true) (hro : 3 < r.ord) :
    Calls Try.prog 10 #[.pointer (some ⟨pb, 0, none⟩), .int .i64 r.key, .int .i64 1, .int .i64 3, .int .i64 cnt] w fun e w' => GiveU w w' base pb mb gb K E r 3 8 cnt e := by
  have p0 : w.cell? ⟨pb, 0, none⟩ = some (.map (some mb)) := h.pool.cell 0
  have r2 : w.cell? ⟨r.blk, 2, none⟩ = some (.int .i64 r.mark) := (h.reg r hr).cell 2
  have hl := h.look_yes hr
  have HC := Lib.hid (clear_ok h hr)
  rw [hcl] at HC
  have hm0 : mk0 K E r = 0 := by unfold mk0; rw [hcl]; rfl
  have HM0 := Lib.hid hm0
  have H := Lib.hid h
  have HR := Lib.hid hr
  have hok := h.ok r hr
  have ho := hok.ord
  have ht := hok.top
  have hmk := hok.mark
  have HAL := Lib.hid (show r.base % 8 = 0 by
    have h1 := hok.al
    rcases pow5 ho with ⟨e1, e2⟩ | ⟨e1, e2⟩ | ⟨e1, e2⟩ | ⟨e1, e2⟩ | ⟨e1, e2⟩ | ⟨e1, e2⟩ <;> rw [e1] at h1 <;> omega)
  obtain ⟨N, hN⟩ : ∃ N, N = 2 ^ r.ord := ⟨_, rfl⟩
  have hp : (2 : Int) ^ r.ord = (N : Int) := by rw [hN]; norm_cast
  rw [← hN] at ht hmk
  have hro' : decide (r.ord ≤ 3) = false := by exact decide_eq_false (by omega)
  have HN := Lib.hid hN
  have g3 : decide ((cnt : Int) < 1) = false := decide_eq_false (by omega)
  have g4 : decide ((64 : Int) < (cnt : Int)) = false := decide_eq_false (by omega)
  clear h hr hok hN hcl hm0
  go_enter Try.func10, Try.ntmps10
  go_wp2_with fail
  refine HC.out.mono ?_
  rintro _ w1 ⟨rfl, hu1⟩
  have HU1 := Lib.hid hu1
  have r1 : w1.cell? ⟨r.blk, 1, none⟩ = some (.int .i64 r.ord) := ((H.out.reg r HR.out).upd hu1 (fun h => h)).cell 1
  have HS1 := Lib.hid (H.out.same hu1)
  clear p0 r2 hl HC hu1
  have HM1 := Lib.hid (show 0 = up 0 8 from rfl)
  have HMM := Lib.hid (show 0 % 8 = 0 from rfl)
  by_cases hroom : N < 0 + cnt * 8
  · have hd : decide ((N : Int) < (cnt : Int) * 8) = true := decide_eq_true (by omega)
    go_wp2_with fail
    go_ret2
    unfold GiveU
    exact .inl ⟨fun h => by
      have h2 := h.2
      rw [HM0.out, ← HM1.out, ← HN.out] at h2
      omega, rfl, HU1.out⟩
  · have hd : decide ((N : Int) < (cnt : Int) * 8) = false := decide_eq_false (by omega)
    have hroom' : 0 + cnt * 8 ≤ N := by omega
    clear hroom
    go_wp2_with fail
    go_loopw [13, 15, 96] (fun vm vl vi wr => ∃ (j : Nat) (E' : List Reg), j ≤ cnt ∧ vi = .int .i64 j ∧ vm = .int .i64 (0 + j * 8 : Nat) ∧ IntV wr w.heap.size vl (nums (3 * 256) (r.base + 0) 8 j) ∧ PStep w wr base pb mb gb E K E' ∧ r ∈ E' ∧ E'.length ≤ E.length + j) (fun _ _ i _ => cnt - (intOf i).toNat)
    case atStart => exact ⟨0, E, by omega, rfl, by first | rfl | go_num, IntV.nil _ _, HS1.out, HR.out, by omega⟩
    case round =>
      obtain ⟨j, E', hj, rfl, hvm, hv, hs, hrE, hEl⟩ := hrel
      obtain ⟨m, hm⟩ : ∃ m, m = 0 + j * 8 := ⟨_, rfl⟩
      rw [← hm] at hvm
      subst hvm
      have hrep := hs.rep
      have HS := Lib.hid hs
      have HV := Lib.hid hv
      have HM := Lib.hid hm
      obtain ⟨A0, cap0, rfl, _⟩ := hv.shape
      rcases Nat.lt_or_ge j cnt with hlt | hge
      · obtain ⟨P, hP⟩ : ∃ P, P = r.base + m := ⟨_, rfl⟩
        have hP64 : P + 8 ≤ 64 := by omega
        have eP : (r.base : Int) + (m : Int) = (P : Int) := by omega
        obtain ⟨Q, hQ⟩ : ∃ Q, Q = P + 768 := ⟨_, rfl⟩
        have eQ : (P : Int) + 768 = (Q : Int) := by omega
        have hQb : Q ≤ 1000 := by omega
        have HQ := Lib.hid hQ
        have HP := Lib.hid hP
        obtain ⟨v, hv0⟩ : ∃ v : World, v = wr.alloc (.cells #[.int .i64 1, .int .i64 Q] 28) := ⟨_, rfl⟩
        have huv : Upd (fun _ => False) wr v := by rw [hv0]; exact (Upd.refl _ _).alloc _
        have hob : Blk v wr.heap.size 28 #[.int .i64 1, .int .i64 Q] := by rw [hv0]; exact Blk.new wr _ _
        have hvz : v.heap.size = wr.heap.size + 1 := by rw [hv0, World.alloc]; simp only [Array.size_push]
        have HV0 := Lib.hid hv0
        have r0 : wr.cell? ⟨r.blk, 0, none⟩ = some (.int .i64 r.base) := (hrep.reg r hrE).cell 0
        have r0' : v.cell? ⟨r.blk, 0, none⟩ = some (.int .i64 r.base) := ((hrep.reg r hrE).upd huv (fun h => h)).cell 0
        have p0 : v.cell? ⟨pb, 0, none⟩ = some (.map (some mb)) := (hrep.pool.upd huv (fun h => h)).cell 0
        have b0 : v.cell? ⟨wr.heap.size, 0, none⟩ = some (.int .i64 1) := hob.cell 0
        have b1 : v.cell? ⟨wr.heap.size, 1, none⟩ = some (.int .i64 Q) := hob.cell 1
        have l1 : wr.heap.size < v.heap.size := by omega
        have l2 : pb < v.heap.size := (hrep.pool.upd huv (fun h => h)).lt
        have l3 : r.blk < v.heap.size := ((hrep.reg r hrE).upd huv (fun h => h)).lt
        have hux : Upd (fun _ => False) wr (v.alloc (.cells #[.int .i64 P, .int .i64 3, .int .i64 0] 50)).drew := (huv.alloc _).drew
        have hrb : Blk (v.alloc (.cells #[.int .i64 P, .int .i64 3, .int .i64 0] 50)).drew v.heap.size 50 #[.int .i64 P, .int .i64 3, .int .i64 0] := (Blk.new v _ _).drew
        obtain ⟨o, E2, hmu, hrep2, hE2, hE2', hlen2⟩ := (hrep.grow hux (fun _ _ h => h)).putReg ⟨Q, P, 3, 0, v.heap.size, 0⟩ hrb (fun hi => by have h7 : v.heap.size < wr.heap.size := hrep.lt _ hi; omega) (by have := hrep.low _ (.inl rfl); have := hrep.pool.lt; show base ≤ v.heap.size; omega)
          ⟨by show Q = 3 * 256 + P; omega, by show 3 ≤ 5; omega, by show P % 2 ^ 3 = 0; have := HAL.out; have := HMM.out; simp only [Nat.reducePow]; omega, by show P + 2 ^ 3 ≤ 64; simp only [Nat.reducePow]; omega, Nat.zero_le _⟩ (by show Q ≠ 1312; omega)
        obtain ⟨v3, hv3⟩ : ∃ v3 : World, v3 = putObj (v.alloc (.cells #[.int .i64 P, .int .i64 3, .int .i64 0] 50)).drew mb o := ⟨_, rfl⟩
        rw [← hv3] at hmu hrep2
        have hu3 : Upd (fun i => i = mb) wr v3 := by rw [hv3]; exact ((hux.mono (G := fun i => i = mb) (fun _ _ h => h.elim)).putObj (g := mb) (.inr rfl) o)
        have hs1 : PStep wr v3 base pb mb gb E' K E2 := ⟨hrep2, hu3.mono (fun i _ h => .inr (.inl h)), fun i hi ho => by
          rcases ho with h1 | h1 | h1 | ⟨x, hx, rfl⟩
          · exact .inl h1
          · exact .inr (.inl h1)
          · exact .inr (.inr (.inl h1))
          · rcases hE2 x hx with ⟨h2, _⟩ | ⟨h2, _⟩
            · exact .inr (.inr (.inr ⟨x, h2, rfl⟩))
            · rw [h2] at hi
              exact absurd hi (by show ¬ v.heap.size < _; omega)⟩
        have hrE2 : r ∈ E2 := hE2' r hrE (by
          have h1 := (H.out.ok r HR.out).key_div
          show r.key ≠ Q
          omega)
        have hv' := hs1.ints hrep hv
        have k1 : v3.cell? ⟨wr.heap.size, 1, none⟩ = some (.int .i64 Q) := by
          have hne : ¬ wr.heap.size = mb := fun e => by have := hrep.lt mb (.inr (.inl rfl)); omega
          rw [hv3]
          exact (((hob.alloc _).drew).putObj hne o).cell 1
        obtain ⟨A', n', c', w5, hap, hv5, hu5⟩ := hv'.app ((Q : Nat) : Int) (Nat.le_trans hs.upd.size hs1.upd.size) (by rw [nums_len]; omega)
        have hs5 := (hs.trans hs1).aside hu5 (fun i hi hg => by
          obtain ⟨_, cs, hb⟩ := hv'.blk hg
          exact hs1.rep.not_own hb hi) (fun i hg => (hv'.blk hg).1)
        have hn5 : nums (3 * 256) (r.base + 0) 8 j ++ [((Q : Nat) : Int)] = nums (3 * 256) (r.base + 0) 8 (j + 1) := by
          rw [nums_succ]
          congr 2
          omega
        rw [hn5] at hv5
        have hl5 : E2.length ≤ E.length + (j + 1) := by omega
        have HA := Lib.hid hap
        have HV5 := Lib.hid hv5
        have HS5 := Lib.hid hs5
        have HV3 := Lib.hid hv3
        have HE5 := Lib.hid (And.intro hrE2 hl5)
        have HMU := Lib.hid hmu
        clear hs hv hm hrep hP hv0 huv hob hs1 hv3 hv' hap hv5 hu5 hs5 hn5 hux hrb hmu hrep2 hE2 hE2' hlen2 hu3 hrE2 hl5 hvz hrE hEl hQ
        go_wp2_with fail
        rw [← HV0.out]
        have hmu := HMU.out
        go_region
        all_goals
          clear hmu
          go_wp2_with (at_builtin; refine Lib.wpList_append_run _ rfl _ _ _ _ rfl _ _ rfl rfl _ _ HA.out ?_)
          go_roundw
          case rel => exact ⟨j + 1, _, by omega, by go_num, by rw [HM.out]; go_num, HV5.out, HS5.out, HE5.out.1, HE5.out.2⟩
          case measure => simp [intOf]; omega
      · obtain rfl : cnt = j := by omega
        have q2 : wr.cell? ⟨r.blk, 2, none⟩ = some (.int .i64 r.mark) := (hrep.reg r hrE).cell 2
        have q3 : wr.frozen? ⟨r.blk, 2, none⟩ = false := (hrep.reg r hrE).frozen 2
        have hs1 := hrep.setMark hrE m (by rw [← HN.out]; omega)
        have hv' := hs1.ints hrep hv
        have HS1 := Lib.hid (hs.trans hs1)
        have HV' := Lib.hid hv'
        have HEL := Lib.hid hEl
        clear hs hv hm hrep hs1 hv' hrE hEl
        go_wp2_with fail
        go_ret2
        unfold GiveU
        refine .inr ⟨by omega, by rw [HM0.out, ← HM1.out, ← HN.out]; omega, _, _, _, rfl, by rw [HM0.out, ← HM1.out]; exact HV'.out, HS1.out, by have := HEL.out; unfold setMark; simpa using this⟩

end
end Go.Proofs.Ytjjgdacjfmiamaa
