/- PoolApart: one way of a round of the law's walk: an object goes, if it can. -/
import Derived.Test.YtjjgdacjfmiamaaPoolInv
import Derived.IntWalk
import Derived.Deep.RegionWith
import Derived.Deep.DeepCutAuto
namespace Go.Proofs.Ytjjgdacjfmiamaa
open Go.RowKit Go.Lib

set_option maxRecDepth 1000000 in
set_option maxHeartbeats 40000000 in
theorem arm_a {bl off len cap : Nat} {w wr : World} {i : Nat} {K : Nat → Nat} {E : List Reg} {xk xw xt xm : Int} {u2 u7 u8 u9 u10 u11 u12 u13 u14 u15 u16 u17 u18 u19 u20 u21 u22 u44 u45 u46 u47 u48 u49 u50 u51 u52 u53 u54 u55 u56 u57 u58 u59 u60 u61 u62 u63 u64 u65 u66 u67 u68 u69 u70 u71 u72 u73 u74 u75 u76 u77 u78 u79 u80 u81 u82 u83 u84 u85 u86 u87 u88 u89 u90 u91 u92 u93 u94 u95 u96 u97 u98 u99 u100 u101 u102 u103 u104 u105 u106 u107 u108 u109 u110 u111 u112 u113 u114 u115 u116 u117 u118 u119 u120 u121 u122 u123 u124 u125 u126 u127 u128 u129 u130 u131 u132 u133 u134 u135 u136 u137 u138 u139 u140 u141 u142 u143 u144 u145 u146 u147 u148 u149 u150 u151 u152 u153 u154 u155 u156 u157 u158 u159 u160 u161 u162 u163 u164 u165 u166 u167 u168 u169 u170 u171 u172 u173 u174 u175 u176 u177 u178 u179 u180 u181 u182 u183 u184 u185 u186 u187 u188 u189 u190 u191 u192 u193 u194 u195 u196 u197 u198 u199 u200 u201 : Value} {K0 : Act → World → Prop}
    (_hlen : len ≤ 9223372036854775807) (_hlt : i < len) (_hi : i ≤ len) (_hd2 : decide ((i : Int) < 300) = true) (_hi0 : (i : Int) < 300)
    (HC : RowKit.Hid (∀ w', Below w.heap.size w w' → w'.cell? ⟨bl, off + i * 4, none⟩ = some (.int .i64 xk) ∧ w'.cell? ⟨bl, off + i * 4 + 1, none⟩ = some (.int .i64 xw) ∧ w'.cell? ⟨bl, off + i * 4 + 2, none⟩ = some (.int .i64 xt) ∧ w'.cell? ⟨bl, off + i * 4 + 3, none⟩ = some (.int .i64 xm)))
    (q0 : -9223372036854775808 ≤ xk ∧ xk ≤ 9223372036854775807) (q1 : -9223372036854775808 ≤ xw ∧ xw ≤ 9223372036854775807) (_q2 : -9223372036854775808 ≤ xt ∧ xt ≤ 9223372036854775807) (_q3 : -9223372036854775808 ≤ xm ∧ xm ≤ 9223372036854775807)
    (HLI : RowKit.Hid (LI w wr K E)) (HEL : RowKit.Hid (E.length ≤ 1 + 5 * i)) (HQ : RowKit.Hid (pickI xk 3 = 0)) :
    Code.wp Try.prog body (Exit.then (fun a' w' => (∃ u2 u6 u7 u8 u9 u10 u11 u12 u13 u14 u15 u16 u17 u18 u19 u20 u21 u22 u44 u45 u46 u47 u48 u49 u50 u51 u52 u53 u54 u55 u56 u57 u58 u59 u60 u61 u62 u63 u64 u65 u66 u67 u68 u69 u70 u71 u72 u73 u74 u75 u76 u77 u78 u79 u80 u81 u82 u83 u84 u85 u86 u87 u88 u89 u90 u91 u92 u93 u94 u95 u96 u97 u98 u99 u100 u101 u102 u103 u104 u105 u106 u107 u108 u109 u110 u111 u112 u113 u114 u115 u116 u117 u118 u119 u120 u121 u122 u123 u124 u125 u126 u127 u128 u129 u130 u131 u132 u133 u134 u135 u136 u137 u138 u139 u140 u141 u142 u143 u144 u145 u146 u147 u148 u149 u150 u151 u152 u153 u154 u155 u156 u157 u158 u159 u160 u161 u162 u163 u164 u165 u166 u167 u168 u169 u170 u171 u172 u173 u174 u175 u176 u177 u178 u179 u180 u181 u182 u183 u184 u185 u186 u187 u188 u189 u190 u191 u192 u193 u194 u195 u196 u197 u198 u199 u200 u201 : Value, (∃ (i : Nat) (K : Nat → Nat) (E : List Reg), i ≤ len ∧ i ≤ 300 ∧ u6 = .int .i64 i ∧ E.length ≤ 1 + 5 * i ∧ LI w w' K E) ∧ a' = ⟨#[(.slice (some ⟨bl, off, none⟩) len cap), undef, u2, (.pointer (some ⟨w.heap.size + 2, 0, none⟩)), (.int .i64 0), (.pointer (some ⟨w.heap.size + 3, 0, none⟩)), u6, u7, u8, u9, u10, u11, u12, u13, u14, u15, u16, u17, u18, u19, u20, u21, u22, undef, undef, undef, undef, undef, (.tuple #[(.pointer (some ⟨w.heap.size + 2, 0, none⟩)), .int .i64 0]), (.tuple #[(.pointer (some ⟨w.heap.size + 2, 0, none⟩)), .int .i64 0]), (.pointer (some ⟨w.heap.size + 2, 0, none⟩)), (.int .i64 0), (.pointer (some ⟨w.heap.size + 2, 0, none⟩)), (.bool false), (.bool false), (.int .i64 0), (.bool false), (.bool false), (.agg #[.int .i64 1, .int .i64 1312]), (.pointer (some ⟨w.heap.size + 2, 0, none⟩)), (.agg #[.int .i64 1, .int .i64 1312]), (.int .i64 0), (.int .i64 0), (.bool false), u44, u45, u46, u47, u48, u49, u50, u51, u52, u53, u54, u55, u56, u57, u58, u59, u60, u61, u62, u63, u64, u65, u66, u67, u68, u69, u70, u71, u72, u73, u74, u75, u76, u77, u78, u79, u80, u81, u82, u83, u84, u85, u86, u87, u88, u89, u90, u91, u92, u93, u94, u95, u96, u97, u98, u99, u100, u101, u102, u103, u104, u105, u106, u107, u108, u109, u110, u111, u112, u113, u114, u115, u116, u117, u118, u119, u120, u121, u122, u123, u124, u125, u126, u127, u128, u129, u130, u131, u132, u133, u134, u135, u136, u137, u138, u139, u140, u141, u142, u143, u144, u145, u146, u147, u148, u149, u150, u151, u152, u153, u154, u155, u156, u157, u158, u159, u160, u161, u162, u163, u164, u165, u166, u167, u168, u169, u170, u171, u172, u173, u174, u175, u176, u177, u178, u179, u180, u181, u182, u183, u184, u185, u186, u187, u188, u189, u190, u191, u192, u193, u194, u195, u196, u197, u198, u199, u200, u201, undef, undef, undef, undef, undef, undef, undef, undef, undef, undef, undef, undef, undef, undef, undef, undef, undef, undef, undef, undef, undef, undef, undef, undef, undef, undef, undef, undef, undef, undef, undef, undef, undef, undef, undef, undef, undef, undef, undef, undef, undef, undef, undef, undef, undef, undef, undef, undef, undef, undef], []⟩) ∧
      len - (intOf (a'.tmps.getD 6 undef)).toNat < len - (intOf ((⟨#[(.slice (some ⟨bl, off, none⟩) len cap), undef, u2, (.pointer (some ⟨w.heap.size + 2, 0, none⟩)), (.int .i64 0), (.pointer (some ⟨w.heap.size + 3, 0, none⟩)), (.int .i64 i), u7, u8, u9, u10, u11, u12, u13, u14, u15, u16, u17, u18, u19, u20, u21, u22, undef, undef, undef, undef, undef, (.tuple #[(.pointer (some ⟨w.heap.size + 2, 0, none⟩)), .int .i64 0]), (.tuple #[(.pointer (some ⟨w.heap.size + 2, 0, none⟩)), .int .i64 0]), (.pointer (some ⟨w.heap.size + 2, 0, none⟩)), (.int .i64 0), (.pointer (some ⟨w.heap.size + 2, 0, none⟩)), (.bool false), (.bool false), (.int .i64 0), (.bool false), (.bool false), (.agg #[.int .i64 1, .int .i64 1312]), (.pointer (some ⟨w.heap.size + 2, 0, none⟩)), (.agg #[.int .i64 1, .int .i64 1312]), (.int .i64 0), (.int .i64 0), (.bool false), u44, u45, u46, u47, u48, u49, u50, u51, u52, u53, u54, u55, u56, u57, u58, u59, u60, u61, u62, u63, u64, u65, u66, u67, u68, u69, u70, u71, u72, u73, u74, u75, u76, u77, u78, u79, u80, u81, u82, u83, u84, u85, u86, u87, u88, u89, u90, u91, u92, u93, u94, u95, u96, u97, u98, u99, u100, u101, u102, u103, u104, u105, u106, u107, u108, u109, u110, u111, u112, u113, u114, u115, u116, u117, u118, u119, u120, u121, u122, u123, u124, u125, u126, u127, u128, u129, u130, u131, u132, u133, u134, u135, u136, u137, u138, u139, u140, u141, u142, u143, u144, u145, u146, u147, u148, u149, u150, u151, u152, u153, u154, u155, u156, u157, u158, u159, u160, u161, u162, u163, u164, u165, u166, u167, u168, u169, u170, u171, u172, u173, u174, u175, u176, u177, u178, u179, u180, u181, u182, u183, u184, u185, u186, u187, u188, u189, u190, u191, u192, u193, u194, u195, u196, u197, u198, u199, u200, u201, undef, undef, undef, undef, undef, undef, undef, undef, undef, undef, undef, undef, undef, undef, undef, undef, undef, undef, undef, undef, undef, undef, undef, undef, undef, undef, undef, undef, undef, undef, undef, undef, undef, undef, undef, undef, undef, undef, undef, undef, undef, undef, undef, undef, undef, undef, undef, undef, undef, undef], []⟩ : Act).tmps.getD 6 undef)).toNat) (Exit.inBlock 0 (Exit.then K0 (bodyPost Try.prog Try.f3 (fun e w' => e = .returned (.bool true) ∧ Below w.heap.size w w')))))
      (⟨#[(.slice (some ⟨bl, off, none⟩) len cap), undef, u2, (.pointer (some ⟨w.heap.size + 2, 0, none⟩)), (.int .i64 0), (.pointer (some ⟨w.heap.size + 3, 0, none⟩)), (.int .i64 i), u7, u8, u9, u10, u11, u12, u13, u14, u15, u16, u17, u18, u19, u20, u21, u22, undef, undef, undef, undef, undef, (.tuple #[(.pointer (some ⟨w.heap.size + 2, 0, none⟩)), .int .i64 0]), (.tuple #[(.pointer (some ⟨w.heap.size + 2, 0, none⟩)), .int .i64 0]), (.pointer (some ⟨w.heap.size + 2, 0, none⟩)), (.int .i64 0), (.pointer (some ⟨w.heap.size + 2, 0, none⟩)), (.bool false), (.bool false), (.int .i64 0), (.bool false), (.bool false), (.agg #[.int .i64 1, .int .i64 1312]), (.pointer (some ⟨w.heap.size + 2, 0, none⟩)), (.agg #[.int .i64 1, .int .i64 1312]), (.int .i64 0), (.int .i64 0), (.bool false), u44, u45, u46, u47, u48, u49, u50, u51, u52, u53, u54, u55, u56, u57, u58, u59, u60, u61, u62, u63, u64, u65, u66, u67, u68, u69, u70, u71, u72, u73, u74, u75, u76, u77, u78, u79, u80, u81, u82, u83, u84, u85, u86, u87, u88, u89, u90, u91, u92, u93, u94, u95, u96, u97, u98, u99, u100, u101, u102, u103, u104, u105, u106, u107, u108, u109, u110, u111, u112, u113, u114, u115, u116, u117, u118, u119, u120, u121, u122, u123, u124, u125, u126, u127, u128, u129, u130, u131, u132, u133, u134, u135, u136, u137, u138, u139, u140, u141, u142, u143, u144, u145, u146, u147, u148, u149, u150, u151, u152, u153, u154, u155, u156, u157, u158, u159, u160, u161, u162, u163, u164, u165, u166, u167, u168, u169, u170, u171, u172, u173, u174, u175, u176, u177, u178, u179, u180, u181, u182, u183, u184, u185, u186, u187, u188, u189, u190, u191, u192, u193, u194, u195, u196, u197, u198, u199, u200, u201, undef, undef, undef, undef, undef, undef, undef, undef, undef, undef, undef, undef, undef, undef, undef, undef, undef, undef, undef, undef, undef, undef, undef, undef, undef, undef, undef, undef, undef, undef, undef, undef, undef, undef, undef, undef, undef, undef, undef, undef, undef, undef, undef, undef, undef, undef, undef, undef, undef, undef], []⟩ : Act) wr := by
  conv => arg 2; whnf
  have hi300 : i < 300 := by omega
  have hel : E.length ≤ 5000 := by have := HEL.out; omega
  have HO := Lib.hid (objects_ok HLI.out.rep hel)
  clear hel
  go_wp2_with fail
  refine HO.out.mono ?_
  rintro _ w1 ⟨q, capq, L, rfl, hq, hat, hnd, hmem, hll, hu1⟩
  have hl1 := HLI.out.same hu1
  obtain ⟨e0, e1, e2, e3⟩ := HC.out w1 hl1.below
  have hpos : 0 < L.length := by
    obtain ⟨r, hr, _⟩ := hl1.rep.whole
    exact List.length_pos_of_mem ((hmem (1, r.key)).2 (.inl ⟨rfl, r, hr, rfl⟩))
  obtain ⟨n, hn⟩ : ∃ n, n = L.length := ⟨_, rfl⟩
  have hn5 : n ≤ 5000 := by have := HEL.out; omega
  rw [← hn] at hpos ⊢
  obtain ⟨k0, k1⟩ := pickI_bound xw n (by omega)
  obtain ⟨k, hk⟩ := Int.eq_ofNat_of_zero_le k0
  rw [hk] at k1
  have hkL : k < L.length := by omega
  have hkn : (k : Int) < (n : Int) := k1
  obtain ⟨c0, c1⟩ := hat k hkL
  have hob := (hmem L[k]).1 (List.getElem_mem hkL)
  have hql : q < w1.heap.size := World.block_lt_of_cell? w1 _ c0
  have hbl1 : bl < w1.heap.size := World.block_lt_of_cell? w1 _ e0
  generalize L[k] = x at c0 c1 hob
  obtain ⟨x1, x2⟩ := x
  simp only at c0 c1
  obtain ⟨v, hv⟩ : ∃ v : World, v = w1.alloc (.cells #[.int .i64 x1, .int .i64 x2] 28) := ⟨_, rfl⟩
  have huv : Upd (fun _ => False) w1 v := by rw [hv]; exact (Upd.refl _ _).alloc _
  have hbx : Blk v w1.heap.size 28 #[.int .i64 x1, .int .i64 x2] := by rw [hv]; exact Blk.new w1 _ _
  have hlv := hl1.same huv
  obtain ⟨v0, v1, v2, v3⟩ := HC.out v hlv.below
  have s0 : v.cell? ⟨w.heap.size + 3, 0, none⟩ = some (.int .i64 1) := hlv.box.cell 0
  have s1 : v.cell? ⟨w.heap.size + 3, 1, none⟩ = some (.int .i64 1312) := hlv.box.cell 1
  have b0 : v.cell? ⟨w1.heap.size, 0, none⟩ = some (.int .i64 x1) := hbx.cell 0
  have b1 : v.cell? ⟨w1.heap.size, 1, none⟩ = some (.int .i64 x2) := hbx.cell 1
  have HP := Lib.hid (pick_any xw n w1 q1 (by omega))
  have HK := Lib.hid hk
  have HV := Lib.hid hv
  have HLV := Lib.hid hlv
  have HBX := Lib.hid hbx
  have HGB := Lib.hid (show w1.heap.size ≠ w.heap.size + 1 by have := (hl1.box).lt; omega)
  have HU1 := Lib.hid hu1
  have HOB := Lib.hid hob
  have hg := eqg_obj
  clear HO hat hnd hmem hll hn hv huv hbx hlv hob hk k0 hl1 hu1
  go_wp2_with fail
  refine HP.out.mono ?_
  rintro _ _ ⟨rfl, rfl⟩
  rw [HK.out]
  go_wp2_with fail
  rw [← HV.out]
  clear e0 e1 e2 e3 c0 c1
  refine (pick_any xk 3 v q0 (by omega)).mono ?_
  rintro _ _ ⟨rfl, rfl⟩
  rw [HQ.out]
  rcases HOB.out with ⟨hx1, r, hr, hx2⟩ | ⟨p1, p2, p3, p4⟩
  · simp only at hx1 hx2
    subst hx1
    have HR := Lib.hid (And.intro hr hx2)
    clear hr hx2
    by_cases hw : x2 = 1312
    · subst hw
      clear HR
      go_wp2_with fail
      go_roundw
      case rel => exact ⟨i + 1, _, _, by omega, by omega, by go_num, by have := HEL.out; omega, HLV.out⟩
      case measure => simp [intOf]; omega
    · have hne : ¬ (x2 : Int) = 1312 := by omega
      have HW := Lib.hid hw
      clear hw
      have HE := Lib.hid (empty_ok HLV.out.rep x2)
      go_wp2_with fail
      refine HE.out.mono ?_
      rintro _ w2 ⟨⟨b, kk, rfl, hbk⟩, hu2⟩
      have hl2 := HLV.out.same hu2
      have hbx2 := HBX.out.upd hu2 (fun h => h)
      have b0 : w2.cell? ⟨w1.heap.size, 0, none⟩ = some (.int .i64 1) := hbx2.cell 0
      have b1 : w2.cell? ⟨w1.heap.size, 1, none⟩ = some (.int .i64 x2) := hbx2.cell 1
      have HBK := Lib.hid hbk
      have HL2 := Lib.hid hl2
      have HBX2 := Lib.hid hbx2
      clear HE hbk hu2 hl2 hbx2
      obtain ⟨hb, rfl⟩ := HBK.out r HR.out.1 HR.out.2.symm
      cases hcl : clearB K E r with
      | true =>
        rw [hcl] at hb
        subst hb
        have hc := remove_reg HL2.out.rep HR.out.1 hcl (by rw [← HR.out.2]; exact HW.out)
        rw [← HR.out.2] at hc
        unfold obV at hc
        have HCC := Lib.hid hc
        clear hc hcl
        go_wp2_with fail
        refine HCC.out.mono ?_
        rintro _ w3 ⟨rfl, E', hs, hm, hl⟩
        have hbx3 := HBX2.out.upd hs.upd (HL2.out.rep.not_own_ob HBX2.out HGB.out)
        have b0 : w3.cell? ⟨w1.heap.size, 0, none⟩ = some (.int .i64 1) := hbx3.cell 0
        have HL3 := Lib.hid (HL2.out.step hs)
        have HLL := Lib.hid hl
        clear hs hm hl hbx3
        go_wp2_with fail
        go_roundw
        case rel => exact ⟨i + 1, _, _, by omega, by omega, by go_num, by have := HEL.out; have := HLL.out; omega, HL3.out⟩
        case measure => simp [intOf]; omega
      | false =>
        rw [hcl] at hb
        subst hb
        have hc := remove_full HL2.out.rep HR.out.1 hcl
        rw [← HR.out.2] at hc
        unfold obV at hc
        have HCC := Lib.hid hc
        clear hc hcl
        go_wp2_with fail
        refine HCC.out.mono ?_
        rintro _ w3 ⟨rfl, hu3⟩
        have b0 : w3.cell? ⟨w1.heap.size, 0, none⟩ = some (.int .i64 1) := (HBX2.out.upd hu3 (fun h => h)).cell 0
        have HL3 := Lib.hid (HL2.out.same hu3)
        clear hu3
        go_wp2_with fail
        go_roundw
        case rel => exact ⟨i + 1, _, _, by omega, by omega, by go_num, by have := HEL.out; omega, HL3.out⟩
        case measure => simp [intOf]; omega
  · simp only at p1 p2 p3 p4
    have hne : ¬ (x1 : Int) = 1 := by omega
    have hnb : ((x1 : Int) == 1) = false := by simpa using hne
    have HE := Lib.hid (empty_ok HLV.out.rep x2)
    go_wp2_with fail
    refine HE.out.mono ?_
    rintro _ w2 ⟨⟨b, kk, rfl, hbk⟩, hu2⟩
    have hl2 := HLV.out.same hu2
    have hbx2 := HBX.out.upd hu2 (fun h => h)
    have b0 : w2.cell? ⟨w1.heap.size, 0, none⟩ = some (.int .i64 x1) := hbx2.cell 0
    have b1 : w2.cell? ⟨w1.heap.size, 1, none⟩ = some (.int .i64 x2) := hbx2.cell 1
    have HBK := Lib.hid hbk
    have HL2 := Lib.hid hl2
    have HBX2 := Lib.hid hbx2
    clear HE hbk hu2 hl2 hbx2
    have hc := remove_page HL2.out.rep x1 x2 p1 p3 p4
    unfold obV at hc
    have HCC := Lib.hid hc
    clear hc p4
    go_wp2_with fail
    refine HCC.out.mono ?_
    rintro _ w3 ⟨rfl, hs⟩
    have hbx3 := HBX2.out.upd hs.upd (HL2.out.rep.not_own_ob HBX2.out HGB.out)
    have b0 : w3.cell? ⟨w1.heap.size, 0, none⟩ = some (.int .i64 x1) := hbx3.cell 0
    have HL3 := Lib.hid (HL2.out.step hs)
    clear hs hbx3
    go_wp2_with fail
    go_roundw
    case rel => exact ⟨i + 1, _, _, by omega, by omega, by go_num, by have := HEL.out; omega, HL3.out⟩
    case measure => simp [intOf]; omega
end Go.Proofs.Ytjjgdacjfmiamaa
