/- IpcOrder: one way of a round of the law's walk: who gets meets one who waits to send. -/
import Derived.Test.YtceihchkedjgbaaIpcPlain
namespace Go.Proofs.Ytceihchkedjgbaa
open Go.RowKit Go.Lib

set_option maxRecDepth 1000000 in
set_option maxHeartbeats 40000000 in
theorem arm_g2 {bl off len cap : Nat} {w wr : World} {i : Nat} {L : List Wt} {xk xt : Int} {t : Nat} {A1 A2 : Option Addr} {cap1 cap2 n1 n2 : Nat} {u2 u8 u9 u10 u11 u12 u13 u14 u15 u16 u17 u25 u26 u27 u28 u29 u30 u31 u32 u33 u34 u35 u36 u37 u38 u39 u40 u41 u42 u43 u44 u45 u46 u47 u48 u49 u50 u51 u52 u53 u54 u55 u56 u57 u58 u59 u60 u61 u62 u63 u64 u65 u66 u67 u68 u69 u70 u71 u72 u73 u74 u75 u76 u77 u78 u79 u80 u81 u82 u83 u84 u85 u86 u87 u88 u89 u90 u91 u92 u93 u94 u95 u96 u97 u98 u99 u100 u101 u102 u103 u104 u105 u106 u107 u108 u109 u110 u111 u112 u113 u114 u115 u116 u117 u118 u119 u120 u121 u122 u123 u124 u125 u126 u127 u128 u129 u130 u131 u132 u133 u134 u135 u136 u137 u138 u139 u140 u141 u142 u143 u144 u145 u146 u147 u148 u149 u150 u151 u152 u153 u154 u155 u156 u157 u158 u159 u160 u161 u162 u163 u164 u165 u166 u167 u168 u169 u170 u171 u172 u173 u174 u175 u176 u177 u178 u179 u180 u181 u182 u183 u184 u185 u186 u187 u188 u189 u190 u191 u192 u193 u194 u195 u196 u197 : Value} {Q0 : Exit → Act → World → Prop}
    (_hlen : len ≤ 9223372036854775807) (_hlt : i < len) (_hi : i ≤ len) (_hd2 : decide ((i : Int) < 2000) = true) (_hi0 : (i : Int) < 2000) (HLT2 : RowKit.Hid (i < 2000)) (_r1 : wr.cell? ⟨bl, off + i * 2, none⟩ = some (.int .i64 xk)) (_r2 : wr.cell? ⟨bl, off + i * 2 + 1, none⟩ = some (.int .i64 xt))
    (q1 : -9223372036854775808 ≤ xk ∧ xk ≤ 9223372036854775807) (q2 : -9223372036854775808 ≤ xt ∧ xt ≤ 9223372036854775807) (_t6 : (t : Int) < 6) (HK : RowKit.Hid (pickI xt 6 = (t : Int))) (HQ : RowKit.Hid (pickI xk 3 = ((1 : Nat) : Int)))
    (_HI2 : RowKit.Hid (i ≤ 2000)) (HG : RowKit.Hid (GoodL L)) (HS : RowKit.Hid (InI w w.heap.size (w.heap.size + 2) (w.heap.size + 3) L (tI L) (aI L) (.slice A1 n1 cap1) (.slice A2 n2 cap2) wr)) (HLi : RowKit.Hid (L.length ≤ i)) (HN1 : RowKit.Hid (n1 = (tI L).length)) (HNL : RowKit.Hid (n1 = L.length ∧ n2 = L.length)) (_hn2000 : n1 ≤ 2000)
    (HSN : RowKit.Hid (t ∉ L.map Wt.thr)) {x : Wt} {rest : List Wt} (HSL : RowKit.Hid (L = x :: rest)) (HSX : RowKit.Hid (x.how = 2)) :
    Code.wp Try.prog body (Exit.then (fun a' w' => (∃ u2 u5 u6 u7 u8 u9 u10 u11 u12 u13 u14 u15 u16 u17 u25 u26 u27 u28 u29 u30 u31 u32 u33 u34 u35 u36 u37 u38 u39 u40 u41 u42 u43 u44 u45 u46 u47 u48 u49 u50 u51 u52 u53 u54 u55 u56 u57 u58 u59 u60 u61 u62 u63 u64 u65 u66 u67 u68 u69 u70 u71 u72 u73 u74 u75 u76 u77 u78 u79 u80 u81 u82 u83 u84 u85 u86 u87 u88 u89 u90 u91 u92 u93 u94 u95 u96 u97 u98 u99 u100 u101 u102 u103 u104 u105 u106 u107 u108 u109 u110 u111 u112 u113 u114 u115 u116 u117 u118 u119 u120 u121 u122 u123 u124 u125 u126 u127 u128 u129 u130 u131 u132 u133 u134 u135 u136 u137 u138 u139 u140 u141 u142 u143 u144 u145 u146 u147 u148 u149 u150 u151 u152 u153 u154 u155 u156 u157 u158 u159 u160 u161 u162 u163 u164 u165 u166 u167 u168 u169 u170 u171 u172 u173 u174 u175 u176 u177 u178 u179 u180 u181 u182 u183 u184 u185 u186 u187 u188 u189 u190 u191 u192 u193 u194 u195 u196 u197 : Value, (∃ (i : Nat) (L : List Wt), i ≤ len ∧ i ≤ 2000 ∧ u7 = .int .i64 i ∧ L.length ≤ i ∧ GoodL L ∧ InI w w.heap.size (w.heap.size + 2) (w.heap.size + 3) L (tI L) (aI L) u5 u6 w') ∧ a' = ⟨#[(.slice (some ⟨bl, off, none⟩) len cap), undef, u2, (.pointer (some ⟨w.heap.size + 2, 0, none⟩)), (.int .i64 0), u5, u6, u7, u8, u9, u10, u11, u12, u13, u14, u15, u16, u17, (.pointer (some ⟨w.heap.size + 2, 0, none⟩)), (.pointer (some ⟨w.heap.size + 2, 0, none⟩)), (.bool false), (.pointer (some ⟨w.heap.size + 2, 0, none⟩)), (.int .i64 0), (.int .i64 0), (.bool false), u25, u26, u27, u28, u29, u30, u31, u32, u33, u34, u35, u36, u37, u38, u39, u40, u41, u42, u43, u44, u45, u46, u47, u48, u49, u50, u51, u52, u53, u54, u55, u56, u57, u58, u59, u60, u61, u62, u63, u64, u65, u66, u67, u68, u69, u70, u71, u72, u73, u74, u75, u76, u77, u78, u79, u80, u81, u82, u83, u84, u85, u86, u87, u88, u89, u90, u91, u92, u93, u94, u95, u96, u97, u98, u99, u100, u101, u102, u103, u104, u105, u106, u107, u108, u109, u110, u111, u112, u113, u114, u115, u116, u117, u118, u119, u120, u121, u122, u123, u124, u125, u126, u127, u128, u129, u130, u131, u132, u133, u134, u135, u136, u137, u138, u139, u140, u141, u142, u143, u144, u145, u146, u147, u148, u149, u150, u151, u152, u153, u154, u155, u156, u157, u158, u159, u160, u161, u162, u163, u164, u165, u166, u167, u168, u169, u170, u171, u172, u173, u174, u175, u176, u177, u178, u179, u180, u181, u182, u183, u184, u185, u186, u187, u188, u189, u190, u191, u192, u193, u194, u195, u196, u197], []⟩) ∧
      len - (intOf (a'.tmps.getD 7 undef)).toNat < len - (intOf ((⟨#[(.slice (some ⟨bl, off, none⟩) len cap), undef, u2, (.pointer (some ⟨w.heap.size + 2, 0, none⟩)), (.int .i64 0), (.slice A1 n1 cap1), (.slice A2 n2 cap2), (.int .i64 i), u8, u9, u10, u11, u12, u13, u14, u15, u16, u17, (.pointer (some ⟨w.heap.size + 2, 0, none⟩)), (.pointer (some ⟨w.heap.size + 2, 0, none⟩)), (.bool false), (.pointer (some ⟨w.heap.size + 2, 0, none⟩)), (.int .i64 0), (.int .i64 0), (.bool false), u25, u26, u27, u28, u29, u30, u31, u32, u33, u34, u35, u36, u37, u38, u39, u40, u41, u42, u43, u44, u45, u46, u47, u48, u49, u50, u51, u52, u53, u54, u55, u56, u57, u58, u59, u60, u61, u62, u63, u64, u65, u66, u67, u68, u69, u70, u71, u72, u73, u74, u75, u76, u77, u78, u79, u80, u81, u82, u83, u84, u85, u86, u87, u88, u89, u90, u91, u92, u93, u94, u95, u96, u97, u98, u99, u100, u101, u102, u103, u104, u105, u106, u107, u108, u109, u110, u111, u112, u113, u114, u115, u116, u117, u118, u119, u120, u121, u122, u123, u124, u125, u126, u127, u128, u129, u130, u131, u132, u133, u134, u135, u136, u137, u138, u139, u140, u141, u142, u143, u144, u145, u146, u147, u148, u149, u150, u151, u152, u153, u154, u155, u156, u157, u158, u159, u160, u161, u162, u163, u164, u165, u166, u167, u168, u169, u170, u171, u172, u173, u174, u175, u176, u177, u178, u179, u180, u181, u182, u183, u184, u185, u186, u187, u188, u189, u190, u191, u192, u193, u194, u195, u196, u197], []⟩ : Act).tmps.getD 7 undef)).toNat) Q0)
      (⟨#[(.slice (some ⟨bl, off, none⟩) len cap), undef, u2, (.pointer (some ⟨w.heap.size + 2, 0, none⟩)), (.int .i64 0), (.slice A1 n1 cap1), (.slice A2 n2 cap2), (.int .i64 i), u8, u9, u10, u11, u12, u13, u14, u15, u16, u17, (.pointer (some ⟨w.heap.size + 2, 0, none⟩)), (.pointer (some ⟨w.heap.size + 2, 0, none⟩)), (.bool false), (.pointer (some ⟨w.heap.size + 2, 0, none⟩)), (.int .i64 0), (.int .i64 0), (.bool false), u25, u26, u27, u28, u29, u30, u31, u32, u33, u34, u35, u36, u37, u38, u39, u40, u41, u42, u43, u44, u45, u46, u47, u48, u49, u50, u51, u52, u53, u54, u55, u56, u57, u58, u59, u60, u61, u62, u63, u64, u65, u66, u67, u68, u69, u70, u71, u72, u73, u74, u75, u76, u77, u78, u79, u80, u81, u82, u83, u84, u85, u86, u87, u88, u89, u90, u91, u92, u93, u94, u95, u96, u97, u98, u99, u100, u101, u102, u103, u104, u105, u106, u107, u108, u109, u110, u111, u112, u113, u114, u115, u116, u117, u118, u119, u120, u121, u122, u123, u124, u125, u126, u127, u128, u129, u130, u131, u132, u133, u134, u135, u136, u137, u138, u139, u140, u141, u142, u143, u144, u145, u146, u147, u148, u149, u150, u151, u152, u153, u154, u155, u156, u157, u158, u159, u160, u161, u162, u163, u164, u165, u166, u167, u168, u169, u170, u171, u172, u173, u174, u175, u176, u177, u178, u179, u180, u181, u182, u183, u184, u185, u186, u187, u188, u189, u190, u191, u192, u193, u194, u195, u196, u197], []⟩ : Act) wr := by
  conv => arg 2; whnf
  go_wp2_with fail
  refine (pick_any xt 6 _ q2 (by omega)).mono ?_
  rintro _ _ ⟨rfl, rfl⟩
  rw [HK.out]
  go_wp2_with fail
  go_loopw [9, 10] (fun va vj w' => wr = w' ∧ ∃ j : Nat, j ≤ n1 ∧ vj = .int .i64 j ∧ va = .int .i64 (atF (tI L) t j)) (fun _ j _ => n1 - (intOf j).toNat)
  case atStart => exact ⟨rfl, 0, by omega, rfl, rfl⟩
  case round =>
    obtain ⟨rfl, j, hj, rfl, rfl⟩ := hrel
    rcases Nat.lt_or_ge j n1 with hlj | hgj
    · have hcell := HS.out.l1.cell (by rw [← HN1.out]; omega)
      obtain ⟨qq, cc, e1, e2⟩ := hcell
      simp only [Value.slice.injEq] at e1
      obtain ⟨rfl, _, rfl⟩ := e1
      have hjM : j < (tI L).length := by rw [← HN1.out]; exact hlj
      have c1 := e2 j hjM
      have hgd : (tI L).getD j 0 = (tI L)[j] := by rw [List.getD_eq_getElem?_getD, List.getElem?_eq_getElem hjM]; rfl
      have hat : atF (tI L) t (j + 1) = if (tI L)[j] = (t : Int) then (j : Int) else atF (tI L) t j := by rw [← hgd]; rfl
      have hj1 : (j : Int) < (n1 : Int) := by omega
      generalize (tI L)[j] = y at c1 hat
      clear e2 hgd
      by_cases hy : y = (t : Int)
      · have hb : (y == (t : Int)) = true := by rw [hy]; simp
        rw [if_pos hy] at hat
        have HAT := Lib.hid hat
        clear hat hy
        go_wp2_with fail
        go_roundw
        all_goals first
          | exact ⟨by first | rfl | trivial, j + 1, by omega, by go_num, by rw [HAT.out]⟩
          | (simp [intOf]; omega)
      · have hb : (y == (t : Int)) = false := by simpa using hy
        rw [if_neg hy] at hat
        have HAT := Lib.hid hat
        clear hat hy
        go_wp2_with fail
        go_roundw
        all_goals first
          | exact ⟨by first | rfl | trivial, j + 1, by omega, by go_num, by rw [HAT.out]⟩
          | (simp [intOf]; omega)
    · obtain rfl : n1 = j := by omega
      have HAS := at_said L t
      rw [← HN1.out] at HAS
      have HAT := Lib.hid HAS
      clear HAS
      rcases HAT.out with ⟨ha, hnot⟩ | ⟨k, hkL, ha, hkt⟩
      · rw [ha]
        have HNOT := Lib.hid hnot
        clear ha hnot HAT
        have hLx := HSL.out
        have hx := HSX.out
        go_wp2_with fail
        refine (pick_any xk 3 _ q1 (by omega)).mono ?_
        rintro _ _ ⟨rfl, rfl⟩
        rw [HQ.out]
        go_wp2_with fail
        refine (pick_any xk 3 _ q1 (by omega)).mono ?_
        rintro _ _ ⟨rfl, rfl⟩
        rw [HQ.out]
        go_wp2_with fail
        obtain ⟨F, hr, hn⟩ := HS.out.bus
        refine (get_meets hr t hLx hx HNOT.out).mono ?_
        rintro _ w2 ⟨rfl, hk⟩
        obtain ⟨ho, hI0, hI⟩ := hn _ _ hk
        obtain ⟨z0, z1, z2, z3, z4, z5, z6, z7, z8, z9, z10, f0⟩ := ofacts ho
        have HI2w := Lib.hid hI0
        have HI := Lib.hid (hI 0 x.thr x.lab false)
        unfold oval
        clear hr hn hk ho hI0 hI
        have hnp : 0 < n1 := by have := HNL.out.1; rw [hLx] at this; simp at this; omega
        have hpos1 : 0 < (tI L).length := by rw [← HN1.out]; omega
        have hpos2 : 0 < (aI L).length := by have := HNL.out; unfold aI; simp; omega
        obtain ⟨qa, ca, e1, e2⟩ := HI2w.out.l1.cell hpos1
        obtain ⟨qb, cb, e3, e4⟩ := HI2w.out.l2.cell hpos2
        have hqa : qa < wr.heap.size := by
          obtain ⟨qa', ca', x1, x2⟩ := HS.out.l1.cell hpos1
          simp only [Value.slice.injEq] at e1 x1
          obtain ⟨rfl, _, _⟩ := e1
          have := World.block_lt_of_cell? wr _ (x2 0 hpos1)
          simp only [Option.some.injEq, Addr.mk.injEq] at x1
          rw [x1.1.1]
          exact this
        have hqb : qb < wr.heap.size := by
          obtain ⟨qb', cb', x1, x2⟩ := HS.out.l2.cell hpos2
          simp only [Value.slice.injEq] at e3 x1
          obtain ⟨rfl, _, _⟩ := e3
          have := World.block_lt_of_cell? wr _ (x2 0 hpos2)
          simp only [Option.some.injEq, Addr.mk.injEq] at x1
          rw [x1.1.1]
          exact this
        have c1 := e2 0 hpos1
        have c2 := e4 0 hpos2
        simp only [Value.slice.injEq] at e1 e3
        obtain ⟨rfl, hx1, rfl⟩ := e1
        obtain ⟨rfl, hx3, rfl⟩ := e3
        clear hx1 hx3
        have na : qa ≠ wr.heap.size := by omega
        have nb : qb ≠ wr.heap.size := by omega
        have hdn : decide ((0 : Int) < (n1 : Int)) = true := decide_eq_true (by omega)
        have hdn1 : (0 : Int) < (n1 : Int) := by omega
        have hdn2 : (0 : Int) < (n2 : Int) := by have := HNL.out; omega
        have hl0 : (tI L)[0] = (x.thr : Int) := by simp only [hLx, tI, List.map_cons, List.getElem_cons_zero]
        rw [hl0] at c1
        have hw0 : (aI L)[0] = (x.lab : Int) := by simp only [hLx, aI, List.map_cons, List.getElem_cons_zero, labI, hx, if_pos]
        rw [hw0] at c2
        have hlab : (0 : Int) ≤ (x.lab : Int) := by omega
        have hlab2 : (x.lab : Int) < 2000 := by have := (HG.out x (by rw [hLx]; exact .head _)).2; omega
        have hdl : decide ((0 : Int) ≤ (x.lab : Int)) = true := decide_eq_true hlab
        have hpp : ((x.thr : Int) != (x.thr : Int)) = false := by simp
        have hii : ((x.lab : Int) != (x.lab : Int)) = false := by simp
        have HGR := Lib.hid (show GoodL rest from fun y hy => HG.out y (by rw [hLx]; exact .tail _ hy))
        have HLX := Lib.hid hLx
        have HX := Lib.hid hx
        clear e2 e4 hw0 hl0 hpos1 hpos2 hqa hqb hLx hx
        go_wp2_with fail
        go_quiet (fail)
        go_wp2_with fail
        have HI5 := Lib.hid (HI.out.same ((Upd.refl _ _).drewN nq))
        refine (HI5.out.cut1 0 (by rw [← HN1.out]; exact hnp) (by rw [← HN1.out]; omega)).mono ?_
        rintro _ w5 ⟨v5, rfl, h5⟩
        have HI6 := Lib.hid h5
        clear h5
        go_wp2_with fail
        refine (HI6.out.cut2 0 (by have := HNL.out; unfold aI; simp; omega) (by unfold aI; simp; have := HLi.out; omega)).mono ?_
        rintro _ w6 ⟨v6, rfl, h6⟩
        have hM1 : (tI L).eraseIdx 0 = tI rest := by rw [HLX.out]; rfl
        have hM2 : (aI L).eraseIdx 0 = aI rest := by rw [HLX.out]; rfl
        rw [hM1, hM2] at h6
        obtain ⟨A7, c7, rfl, _⟩ := h6.l1.shape
        have HLi2 := Lib.hid (show rest.length + 1 ≤ i by have := HLi.out; rw [HLX.out] at this; exact this)
        have HI := Lib.hid h6
        clear h6 hM1 hM2 HLX
        go_wp2_with fail
        refine (InI.line (wr := w6) HI.out (by have := HLi2.out; omega)).mono ?_
        rintro _ w4 ⟨v, rfl, hv, h4⟩
        obtain ⟨A3, cap3, rfl, _⟩ := hv.shape
        obtain ⟨m, hm⟩ : ∃ m, m = (tI rest).length := ⟨_, rfl⟩
        have hm3 : (rest.map (fun x => (x.thr : Int))).length = m := by rw [hm]; rfl
        rw [hm3]
        rw [← hm] at HI h4 ⊢
        have HV := Lib.hid hv
        have H4 := Lib.hid h4
        have HM := Lib.hid hm
        have hm2 : m ≤ 2001 := by have := HLi2.out; rw [hm]; unfold tI; first | (simp; omega) | omega
        clear hv h4 hm hm3
        go_wp2_with fail
        go_loopw [17] (fun vj w' => Upd (fun _ => False) w4 w' ∧ ∃ j : Nat, j ≤ m ∧ vj = .int .i64 j) (fun j _ => m - (intOf j).toNat)
        case atStart => exact ⟨Upd.refl _ _, 0, by omega, rfl⟩
        case round =>
          obtain ⟨hu, j, hj, rfl⟩ := hrel
          have HU := Lib.hid hu
          clear hu
          rcases Nat.lt_or_ge j m with hlj | hgj
          · have hjM : j < (tI rest).length := by rw [← HM.out]; exact hlj
            obtain ⟨qa, ca, e1, e2⟩ := (HV.out.kept HU.out (fun _ _ h => h)).cell (by show 0 < (tI rest).length; omega)
            obtain ⟨qb, cb, e3, e4⟩ := ((H4.out.same HU.out).l1).cell (by omega)
            simp only [Value.slice.injEq] at e1 e3
            obtain ⟨rfl, hx1, rfl⟩ := e1
            obtain ⟨rfl, hx3, rfl⟩ := e3
            clear hx1 hx3
            have c1 := e2 j hjM
            have c2 := e4 j hjM
            have c1' := c1.trans (show some (Value.int .i64 (List.map (fun x : Wt => (x.thr : Int)) rest)[j]) = some (.int .i64 (tI rest)[j]) from rfl)
            clear c1
            generalize (tI rest)[j] = y at c1' c2
            clear e2 e4
            have hj1 : (j : Int) < (m : Int) := by omega
            have hyy : (y != y) = false := by simp
            go_wp2_with fail
            go_quiet (fail)
            go_wp2_with fail
            go_roundw
            all_goals first
              | exact ⟨HU.out.drewN _, j + 1, by omega, by go_num⟩
              | (simp [intOf]; omega)
          · obtain rfl : j = m := by omega
            go_wp2_with fail
            go_roundw
            all_goals first
              | exact ⟨i + 1, rest, by omega, by have := HLT2.out; omega, by go_num, by have := HLi2.out; first | omega | (simp; omega), HGR.out, H4.out.same HU.out⟩
              | (simp [intOf]; omega)
      · exact absurd (List.mem_map.2 ⟨_, List.getElem_mem hkL, hkt⟩) HSN.out
end Go.Proofs.Ytceihchkedjgbaa
