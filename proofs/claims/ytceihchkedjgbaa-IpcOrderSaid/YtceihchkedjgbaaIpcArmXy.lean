/- IpcOrder: one way of a round of the law's walk: who waits cancels. -/
import Derived.Test.YtceihchkedjgbaaIpcPlain
namespace Go.Proofs.Ytceihchkedjgbaa
open Go.RowKit Go.Lib

set_option maxRecDepth 1000000 in
set_option maxHeartbeats 40000000 in
theorem arm_xy {bl off len cap : Nat} {w wr : World} {i : Nat} {L : List Wt} {xk xt : Int} {t : Nat} {A1 A2 : Option Addr} {cap1 cap2 n1 n2 : Nat} {u2 u8 u9 u10 u11 u12 u13 u14 u15 u16 u17 u25 u26 u27 u28 u29 u30 u31 u32 u33 u34 u35 u36 u37 u38 u39 u40 u41 u42 u43 u44 u45 u46 u47 u48 u49 u50 u51 u52 u53 u54 u55 u56 u57 u58 u59 u60 u61 u62 u63 u64 u65 u66 u67 u68 u69 u70 u71 u72 u73 u74 u75 u76 u77 u78 u79 u80 u81 u82 u83 u84 u85 u86 u87 u88 u89 u90 u91 u92 u93 u94 u95 u96 u97 u98 u99 u100 u101 u102 u103 u104 u105 u106 u107 u108 u109 u110 u111 u112 u113 u114 u115 u116 u117 u118 u119 u120 u121 u122 u123 u124 u125 u126 u127 u128 u129 u130 u131 u132 u133 u134 u135 u136 u137 u138 u139 u140 u141 u142 u143 u144 u145 u146 u147 u148 u149 u150 u151 u152 u153 u154 u155 u156 u157 u158 u159 u160 u161 u162 u163 u164 u165 u166 u167 u168 u169 u170 u171 u172 u173 u174 u175 u176 u177 u178 u179 u180 u181 u182 u183 u184 u185 u186 u187 u188 u189 u190 u191 u192 u193 u194 u195 u196 u197 : Value} {Q0 : Exit → Act → World → Prop}
    (_hlen : len ≤ 9223372036854775807) (_hlt : i < len) (_hi : i ≤ len) (_hd2 : decide ((i : Int) < 2000) = true) (_hi0 : (i : Int) < 2000) (HLT2 : RowKit.Hid (i < 2000)) (_r1 : wr.cell? ⟨bl, off + i * 2, none⟩ = some (.int .i64 xk)) (_r2 : wr.cell? ⟨bl, off + i * 2 + 1, none⟩ = some (.int .i64 xt))
    (q1 : -9223372036854775808 ≤ xk ∧ xk ≤ 9223372036854775807) (q2 : -9223372036854775808 ≤ xt ∧ xt ≤ 9223372036854775807) (_t6 : (t : Int) < 6) (HK : RowKit.Hid (pickI xt 6 = (t : Int))) (HQ : RowKit.Hid (pickI xk 3 = ((2 : Nat) : Int)))
    (_HI2 : RowKit.Hid (i ≤ 2000)) (HG : RowKit.Hid (GoodL L)) (HS : RowKit.Hid (InI w w.heap.size (w.heap.size + 2) (w.heap.size + 3) L (tI L) (aI L) (.slice A1 n1 cap1) (.slice A2 n2 cap2) wr)) (HLi : RowKit.Hid (L.length ≤ i)) (HN1 : RowKit.Hid (n1 = (tI L).length)) (HNL : RowKit.Hid (n1 = L.length ∧ n2 = L.length)) (_hn2000 : n1 ≤ 2000)
    (HSN : RowKit.Hid (t ∈ L.map Wt.thr)) :
    Code.wp Try.prog body (Exit.then (fun a' w' => (∃ u2 u5 u6 u7 u8 u9 u10 u11 u12 u13 u14 u15 u16 u17 u25 u26 u27 u28 u29 u30 u31 u32 u33 u34 u35 u36 u37 u38 u39 u40 u41 u42 u43 u44 u45 u46 u47 u48 u49 u50 u51 u52 u53 u54 u55 u56 u57 u58 u59 u60 u61 u62 u63 u64 u65 u66 u67 u68 u69 u70 u71 u72 u73 u74 u75 u76 u77 u78 u79 u80 u81 u82 u83 u84 u85 u86 u87 u88 u89 u90 u91 u92 u93 u94 u95 u96 u97 u98 u99 u100 u101 u102 u103 u104 u105 u106 u107 u108 u109 u110 u111 u112 u113 u114 u115 u116 u117 u118 u119 u120 u121 u122 u123 u124 u125 u126 u127 u128 u129 u130 u131 u132 u133 u134 u135 u136 u137 u138 u139 u140 u141 u142 u143 u144 u145 u146 u147 u148 u149 u150 u151 u152 u153 u154 u155 u156 u157 u158 u159 u160 u161 u162 u163 u164 u165 u166 u167 u168 u169 u170 u171 u172 u173 u174 u175 u176 u177 u178 u179 u180 u181 u182 u183 u184 u185 u186 u187 u188 u189 u190 u191 u192 u193 u194 u195 u196 u197 : Value, (∃ (i : Nat) (L : List Wt), i ≤ len ∧ i ≤ 2000 ∧ u7 = .int .i64 i ∧ L.length ≤ i ∧ GoodL L ∧ InI w w.heap.size (w.heap.size + 2) (w.heap.size + 3) L (tI L) (aI L) u5 u6 w') ∧ a' = ⟨#[(.slice (some ⟨bl, off, none⟩) len cap), undef, u2, (.pointer (some ⟨w.heap.size + 2, 0, none⟩)), (.int .i64 0), u5, u6, u7, u8, u9, u10, u11, u12, u13, u14, u15, u16, u17, (.pointer (some ⟨w.heap.size + 2, 0, none⟩)), (.pointer (some ⟨w.heap.size + 2, 0, none⟩)), (.bool false), (.pointer (some ⟨w.heap.size + 2, 0, none⟩)), (.int .i64 0), (.int .i64 0), (.bool false), u25, u26, u27, u28, u29, u30, u31, u32, u33, u34, u35, u36, u37, u38, u39, u40, u41, u42, u43, u44, u45, u46, u47, u48, u49, u50, u51, u52, u53, u54, u55, u56, u57, u58, u59, u60, u61, u62, u63, u64, u65, u66, u67, u68, u69, u70, u71, u72, u73, u74, u75, u76, u77, u78, u79, u80, u81, u82, u83, u84, u85, u86, u87, u88, u89, u90, u91, u92, u93, u94, u95, u96, u97, u98, u99, u100, u101, u102, u103, u104, u105, u106, u107, u108, u109, u110, u111, u112, u113, u114, u115, u116, u117, u118, u119, u120, u121, u122, u123, u124, u125, u126, u127, u128, u129, u130, u131, u132, u133, u134, u135, u136, u137, u138, u139, u140, u141, u142, u143, u144, u145, u146, u147, u148, u149, u150, u151, u152, u153, u154, u155, u156, u157, u158, u159, u160, u161, u162, u163, u164, u165, u166, u167, u168, u169, u170, u171, u172, u173, u174, u175, u176, u177, u178, u179, u180, u181, u182, u183, u184, u185, u186, u187, u188, u189, u190, u191, u192, u193, u194, u195, u196, u197], []⟩) ∧
      len - (intOf (a'.tmps.getD 7 undef)).toNat < len - (intOf ((⟨#[(.slice (some ⟨bl, off, none⟩) len cap), undef, u2, (.pointer (some ⟨w.heap.size + 2, 0, none⟩)), (.int .i64 0), (.slice A1 n1 cap1), (.slice A2 n2 cap2), (.int .i64 i), u8, u9, u10, u11, u12, u13, u14, u15, u16, u17, (.pointer (some ⟨w.heap.size + 2, 0, none⟩)), (.pointer (some ⟨w.heap.size + 2, 0, none⟩)), (.bool false), (.pointer (some ⟨w.heap.size + 2, 0, none⟩)), (.int .i64 0), (.int .i64 0), (.bool false), u25, u26, u27, u28, u29, u30, u31, u32, u33, u34, u35, u36, u37, u38, u39, u40, u41, u42, u43, u44, u45, u46, u47, u48, u49, u50, u51, u52, u53, u54, u55, u56, u57, u58, u59, u60, u61, u62, u63, u64, u65, u66, u67, u68, u69, u70, u71, u72, u73, u74, u75, u76, u77, u78, u79, u80, u81, u82, u83, u84, u85, u86, u87, u88, u89, u90, u91, u92, u93, u94, u95, u96, u97, u98, u99, u100, u101, u102, u103, u104, u105, u106, u107, u108, u109, u110, u111, u112, u113, u114, u115, u116, u117, u118, u119, u120, u121, u122, u123, u124, u125, u126, u127, u128, u129, u130, u131, u132, u133, u134, u135, u136, u137, u138, u139, u140, u141, u142, u143, u144, u145, u146, u147, u148, u149, u150, u151, u152, u153, u154, u155, u156, u157, u158, u159, u160, u161, u162, u163, u164, u165, u166, u167, u168, u169, u170, u171, u172, u173, u174, u175, u176, u177, u178, u179, u180, u181, u182, u183, u184, u185, u186, u187, u188, u189, u190, u191, u192, u193, u194, u195, u196, u197], []⟩ : Act).tmps.getD 7 undef)).toNat) Q0)
      (⟨#[(.slice (some ⟨bl, off, none⟩) len cap), undef, u2, (.pointer (some ⟨w.heap.size + 2, 0, none⟩)), (.int .i64 0), (.slice A1 n1 cap1), (.slice A2 n2 cap2), (.int .i64 i), u8, u9, u10, u11, u12, u13, u14, u15, u16, u17, (.pointer (some ⟨w.heap.size + 2, 0, none⟩)), (.pointer (some ⟨w.heap.size + 2, 0, none⟩)), (.bool false), (.pointer (some ⟨w.heap.size + 2, 0, none⟩)), (.int .i64 0), (.int .i64 0), (.bool false), u25, u26, u27, u28, u29, u30, u31, u32, u33, u34, u35, u36, u37, u38, u39, u40, u41, u42, u43, u44, u45, u46, u47, u48, u49, u50, u51, u52, u53, u54, u55, u56, u57, u58, u59, u60, u61, u62, u63, u64, u65, u66, u67, u68, u69, u70, u71, u72, u73, u74, u75, u76, u77, u78, u79, u80, u81, u82, u83, u84, u85, u86, u87, u88, u89, u90, u91, u92, u93, u94, u95, u96, u97, u98, u99, u100, u101, u102, u103, u104, u105, u106, u107, u108, u109, u110, u111, u112, u113, u114, u115, u116, u117, u118, u119, u120, u121, u122, u123, u124, u125, u126, u127, u128, u129, u130, u131, u132, u133, u134, u135, u136, u137, u138, u139, u140, u141, u142, u143, u144, u145, u146, u147, u148, u149, u150, u151, u152, u153, u154, u155, u156, u157, u158, u159, u160, u161, u162, u163, u164, u165, u166, u167, u168, u169, u170, u171, u172, u173, u174, u175, u176, u177, u178, u179, u180, u181, u182, u183, u184, u185, u186, u187, u188, u189, u190, u191, u192, u193, u194, u195, u196, u197], []⟩ : Act) wr := by
  conv => arg 2; whnf
  go_wp2_with fail
  refine (pick_any xt 6 _ q2 (by omega)).mono ?_
  rintro _ _ ⟨rfl, rfl⟩
  rw [HK.out]
  go_wp2_with fail
  go_loopw [9, 10] (fun va vj w' => wr = w' ∧ ∃ j : Nat, j ≤ n1 ∧ vj = .int .i64 j ∧ va = .int .i64 (atF (tI L) t j)) (fun _ j _ => n1 - (intOf j).toNat)
  case atStart => exact ⟨rfl, 0, by omega, rfl, rfl⟩
  case round =>
    obtain ⟨rfl, j, hj, rfl, rfl⟩ := hrel
    rcases Nat.lt_or_ge j n1 with hlj | hgj
    · have hcell := HS.out.l1.cell (by rw [← HN1.out]; omega)
      obtain ⟨qq, cc, e1, e2⟩ := hcell
      simp only [Value.slice.injEq] at e1
      obtain ⟨rfl, _, rfl⟩ := e1
      have hjM : j < (tI L).length := by rw [← HN1.out]; exact hlj
      have c1 := e2 j hjM
      have hgd : (tI L).getD j 0 = (tI L)[j] := by rw [List.getD_eq_getElem?_getD, List.getElem?_eq_getElem hjM]; rfl
      have hat : atF (tI L) t (j + 1) = if (tI L)[j] = (t : Int) then (j : Int) else atF (tI L) t j := by rw [← hgd]; rfl
      have hj1 : (j : Int) < (n1 : Int) := by omega
      generalize (tI L)[j] = y at c1 hat
      clear e2 hgd
      by_cases hy : y = (t : Int)
      · have hb : (y == (t : Int)) = true := by rw [hy]; simp
        rw [if_pos hy] at hat
        have HAT := Lib.hid hat
        clear hat hy
        go_wp2_with fail
        go_roundw
        all_goals first
          | exact ⟨by first | rfl | trivial, j + 1, by omega, by go_num, by rw [HAT.out]⟩
          | (simp [intOf]; omega)
      · have hb : (y == (t : Int)) = false := by simpa using hy
        rw [if_neg hy] at hat
        have HAT := Lib.hid hat
        clear hat hy
        go_wp2_with fail
        go_roundw
        all_goals first
          | exact ⟨by first | rfl | trivial, j + 1, by omega, by go_num, by rw [HAT.out]⟩
          | (simp [intOf]; omega)
    · obtain rfl : n1 = j := by omega
      have HAS := at_said L t
      rw [← HN1.out] at HAS
      have HAT := Lib.hid HAS
      clear HAS
      rcases HAT.out with ⟨ha, hnot⟩ | ⟨k, hkL, ha, hkt⟩
      · exact absurd HSN.out hnot
      · rw [ha]
        have HKL := Lib.hid hkL
        have HKT := Lib.hid hkt
        have hk1 : k < n1 := by have := HNL.out; omega
        clear ha HAT
        go_wp2_with fail
        refine (pick_any xk 3 _ q1 (by omega)).mono ?_
        rintro _ _ ⟨rfl, rfl⟩
        rw [HQ.out]
        go_wp2_with fail
        refine (pick_any xk 3 _ q1 (by omega)).mono ?_
        rintro _ _ ⟨rfl, rfl⟩
        rw [HQ.out]
        go_wp2_with fail
        obtain ⟨F, hr, hn⟩ := HS.out.bus0
        refine (cancel_ok hr k t HKL.out HKT.out (by have := HLi.out; omega)).mono ?_
        rintro _ w2 ⟨rfl, hk⟩
        have HI := Lib.hid (hn _ _ hk)
        clear hr hn hk
        go_wp2_with fail
        refine (HI.out.cut1 k (by rw [← HN1.out]; exact hk1) (by rw [← HN1.out]; omega)).mono ?_
        rintro _ w3 ⟨v1, rfl, h3⟩
        have HI3 := Lib.hid h3
        clear h3
        go_wp2_with fail
        refine (HI3.out.cut2 k (by have := HNL.out; unfold aI; simp; omega) (by unfold aI; simp; have := HLi.out; omega)).mono ?_
        rintro _ w4 ⟨v2, rfl, h4⟩
        have HI4 := Lib.hid h4
        clear h4
        go_wp2_with fail
        go_roundw
        all_goals first
          | exact ⟨i + 1, L.eraseIdx k, by omega, by have := HLT2.out; omega, by go_num, by have := HLi.out; rw [List.length_eraseIdx]; split <;> omega, HG.out.erase k, by unfold tI aI; rw [map_eraseIdx, map_eraseIdx]; exact HI4.out⟩
          | (simp [intOf]; omega)
end Go.Proofs.Ytceihchkedjgbaa
