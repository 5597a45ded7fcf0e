/- PoolApart: one way of a round of the law's walk: untypeds are given. -/
import Derived.Test.YtjjgdacjfmiamaaPoolInv
import Derived.IntWalk
import Derived.Deep.RegionWith
import Derived.Deep.DeepCutAuto
namespace Go.Proofs.Ytjjgdacjfmiamaa
open Go.RowKit Go.Lib

set_option maxRecDepth 1000000 in
set_option maxHeartbeats 40000000 in
theorem arm_c {bl off len cap : Nat} {w wr : World} {i : Nat} {K : Nat → Nat} {E : List Reg} {xk xw xt xm : Int} {u2 u7 u8 u9 u10 u11 u12 u13 u14 u15 u16 u17 u18 u19 u20 u21 u22 u44 u45 u46 u47 u48 u49 u50 u51 u52 u53 u54 u55 u56 u57 u58 u59 u60 u61 u62 u63 u64 u65 u66 u67 u68 u69 u70 u71 u72 u73 u74 u75 u76 u77 u78 u79 u80 u81 u82 u83 u84 u85 u86 u87 u88 u89 u90 u91 u92 u93 u94 u95 u96 u97 u98 u99 u100 u101 u102 u103 u104 u105 u106 u107 u108 u109 u110 u111 u112 u113 u114 u115 u116 u117 u118 u119 u120 u121 u122 u123 u124 u125 u126 u127 u128 u129 u130 u131 u132 u133 u134 u135 u136 u137 u138 u139 u140 u141 u142 u143 u144 u145 u146 u147 u148 u149 u150 u151 u152 u153 u154 u155 u156 u157 u158 u159 u160 u161 u162 u163 u164 u165 u166 u167 u168 u169 u170 u171 u172 u173 u174 u175 u176 u177 u178 u179 u180 u181 u182 u183 u184 u185 u186 u187 u188 u189 u190 u191 u192 u193 u194 u195 u196 u197 u198 u199 u200 u201 : Value} {K0 : Act → World → Prop}
    (_hlen : len ≤ 9223372036854775807) (_hlt : i < len) (_hi : i ≤ len) (_hd2 : decide ((i : Int) < 300) = true) (_hi0 : (i : Int) < 300)
    (HC : RowKit.Hid (∀ w', Below w.heap.size w w' → w'.cell? ⟨bl, off + i * 4, none⟩ = some (.int .i64 xk) ∧ w'.cell? ⟨bl, off + i * 4 + 1, none⟩ = some (.int .i64 xw) ∧ w'.cell? ⟨bl, off + i * 4 + 2, none⟩ = some (.int .i64 xt) ∧ w'.cell? ⟨bl, off + i * 4 + 3, none⟩ = some (.int .i64 xm)))
    (q0 : -9223372036854775808 ≤ xk ∧ xk ≤ 9223372036854775807) (q1 : -9223372036854775808 ≤ xw ∧ xw ≤ 9223372036854775807) (q2 : -9223372036854775808 ≤ xt ∧ xt ≤ 9223372036854775807) (q3 : -9223372036854775808 ≤ xm ∧ xm ≤ 9223372036854775807)
    (HLI : RowKit.Hid (LI w wr K E)) (HEL : RowKit.Hid (E.length ≤ 1 + 5 * i)) (HQ : RowKit.Hid (pickI xk 3 ≠ 0)) (HT : RowKit.Hid (pickI xt 8 = 0)) :
    Code.wp Try.prog body (Exit.then (fun a' w' => (∃ u2 u6 u7 u8 u9 u10 u11 u12 u13 u14 u15 u16 u17 u18 u19 u20 u21 u22 u44 u45 u46 u47 u48 u49 u50 u51 u52 u53 u54 u55 u56 u57 u58 u59 u60 u61 u62 u63 u64 u65 u66 u67 u68 u69 u70 u71 u72 u73 u74 u75 u76 u77 u78 u79 u80 u81 u82 u83 u84 u85 u86 u87 u88 u89 u90 u91 u92 u93 u94 u95 u96 u97 u98 u99 u100 u101 u102 u103 u104 u105 u106 u107 u108 u109 u110 u111 u112 u113 u114 u115 u116 u117 u118 u119 u120 u121 u122 u123 u124 u125 u126 u127 u128 u129 u130 u131 u132 u133 u134 u135 u136 u137 u138 u139 u140 u141 u142 u143 u144 u145 u146 u147 u148 u149 u150 u151 u152 u153 u154 u155 u156 u157 u158 u159 u160 u161 u162 u163 u164 u165 u166 u167 u168 u169 u170 u171 u172 u173 u174 u175 u176 u177 u178 u179 u180 u181 u182 u183 u184 u185 u186 u187 u188 u189 u190 u191 u192 u193 u194 u195 u196 u197 u198 u199 u200 u201 : Value, (∃ (i : Nat) (K : Nat → Nat) (E : List Reg), i ≤ len ∧ i ≤ 300 ∧ u6 = .int .i64 i ∧ E.length ≤ 1 + 5 * i ∧ LI w w' K E) ∧ a' = ⟨#[(.slice (some ⟨bl, off, none⟩) len cap), undef, u2, (.pointer (some ⟨w.heap.size + 2, 0, none⟩)), (.int .i64 0), (.pointer (some ⟨w.heap.size + 3, 0, none⟩)), u6, u7, u8, u9, u10, u11, u12, u13, u14, u15, u16, u17, u18, u19, u20, u21, u22, undef, undef, undef, undef, undef, (.tuple #[(.pointer (some ⟨w.heap.size + 2, 0, none⟩)), .int .i64 0]), (.tuple #[(.pointer (some ⟨w.heap.size + 2, 0, none⟩)), .int .i64 0]), (.pointer (some ⟨w.heap.size + 2, 0, none⟩)), (.int .i64 0), (.pointer (some ⟨w.heap.size + 2, 0, none⟩)), (.bool false), (.bool false), (.int .i64 0), (.bool false), (.bool false), (.agg #[.int .i64 1, .int .i64 1312]), (.pointer (some ⟨w.heap.size + 2, 0, none⟩)), (.agg #[.int .i64 1, .int .i64 1312]), (.int .i64 0), (.int .i64 0), (.bool false), u44, u45, u46, u47, u48, u49, u50, u51, u52, u53, u54, u55, u56, u57, u58, u59, u60, u61, u62, u63, u64, u65, u66, u67, u68, u69, u70, u71, u72, u73, u74, u75, u76, u77, u78, u79, u80, u81, u82, u83, u84, u85, u86, u87, u88, u89, u90, u91, u92, u93, u94, u95, u96, u97, u98, u99, u100, u101, u102, u103, u104, u105, u106, u107, u108, u109, u110, u111, u112, u113, u114, u115, u116, u117, u118, u119, u120, u121, u122, u123, u124, u125, u126, u127, u128, u129, u130, u131, u132, u133, u134, u135, u136, u137, u138, u139, u140, u141, u142, u143, u144, u145, u146, u147, u148, u149, u150, u151, u152, u153, u154, u155, u156, u157, u158, u159, u160, u161, u162, u163, u164, u165, u166, u167, u168, u169, u170, u171, u172, u173, u174, u175, u176, u177, u178, u179, u180, u181, u182, u183, u184, u185, u186, u187, u188, u189, u190, u191, u192, u193, u194, u195, u196, u197, u198, u199, u200, u201, undef, undef, undef, undef, undef, undef, undef, undef, undef, undef, undef, undef, undef, undef, undef, undef, undef, undef, undef, undef, undef, undef, undef, undef, undef, undef, undef, undef, undef, undef, undef, undef, undef, undef, undef, undef, undef, undef, undef, undef, undef, undef, undef, undef, undef, undef, undef, undef, undef, undef], []⟩) ∧
      len - (intOf (a'.tmps.getD 6 undef)).toNat < len - (intOf ((⟨#[(.slice (some ⟨bl, off, none⟩) len cap), undef, u2, (.pointer (some ⟨w.heap.size + 2, 0, none⟩)), (.int .i64 0), (.pointer (some ⟨w.heap.size + 3, 0, none⟩)), (.int .i64 i), u7, u8, u9, u10, u11, u12, u13, u14, u15, u16, u17, u18, u19, u20, u21, u22, undef, undef, undef, undef, undef, (.tuple #[(.pointer (some ⟨w.heap.size + 2, 0, none⟩)), .int .i64 0]), (.tuple #[(.pointer (some ⟨w.heap.size + 2, 0, none⟩)), .int .i64 0]), (.pointer (some ⟨w.heap.size + 2, 0, none⟩)), (.int .i64 0), (.pointer (some ⟨w.heap.size + 2, 0, none⟩)), (.bool false), (.bool false), (.int .i64 0), (.bool false), (.bool false), (.agg #[.int .i64 1, .int .i64 1312]), (.pointer (some ⟨w.heap.size + 2, 0, none⟩)), (.agg #[.int .i64 1, .int .i64 1312]), (.int .i64 0), (.int .i64 0), (.bool false), u44, u45, u46, u47, u48, u49, u50, u51, u52, u53, u54, u55, u56, u57, u58, u59, u60, u61, u62, u63, u64, u65, u66, u67, u68, u69, u70, u71, u72, u73, u74, u75, u76, u77, u78, u79, u80, u81, u82, u83, u84, u85, u86, u87, u88, u89, u90, u91, u92, u93, u94, u95, u96, u97, u98, u99, u100, u101, u102, u103, u104, u105, u106, u107, u108, u109, u110, u111, u112, u113, u114, u115, u116, u117, u118, u119, u120, u121, u122, u123, u124, u125, u126, u127, u128, u129, u130, u131, u132, u133, u134, u135, u136, u137, u138, u139, u140, u141, u142, u143, u144, u145, u146, u147, u148, u149, u150, u151, u152, u153, u154, u155, u156, u157, u158, u159, u160, u161, u162, u163, u164, u165, u166, u167, u168, u169, u170, u171, u172, u173, u174, u175, u176, u177, u178, u179, u180, u181, u182, u183, u184, u185, u186, u187, u188, u189, u190, u191, u192, u193, u194, u195, u196, u197, u198, u199, u200, u201, undef, undef, undef, undef, undef, undef, undef, undef, undef, undef, undef, undef, undef, undef, undef, undef, undef, undef, undef, undef, undef, undef, undef, undef, undef, undef, undef, undef, undef, undef, undef, undef, undef, undef, undef, undef, undef, undef, undef, undef, undef, undef, undef, undef, undef, undef, undef, undef, undef, undef], []⟩ : Act).tmps.getD 6 undef)).toNat) (Exit.inBlock 0 (Exit.then K0 (bodyPost Try.prog Try.f3 (fun e w' => e = .returned (.bool true) ∧ Below w.heap.size w w')))))
      (⟨#[(.slice (some ⟨bl, off, none⟩) len cap), undef, u2, (.pointer (some ⟨w.heap.size + 2, 0, none⟩)), (.int .i64 0), (.pointer (some ⟨w.heap.size + 3, 0, none⟩)), (.int .i64 i), u7, u8, u9, u10, u11, u12, u13, u14, u15, u16, u17, u18, u19, u20, u21, u22, undef, undef, undef, undef, undef, (.tuple #[(.pointer (some ⟨w.heap.size + 2, 0, none⟩)), .int .i64 0]), (.tuple #[(.pointer (some ⟨w.heap.size + 2, 0, none⟩)), .int .i64 0]), (.pointer (some ⟨w.heap.size + 2, 0, none⟩)), (.int .i64 0), (.pointer (some ⟨w.heap.size + 2, 0, none⟩)), (.bool false), (.bool false), (.int .i64 0), (.bool false), (.bool false), (.agg #[.int .i64 1, .int .i64 1312]), (.pointer (some ⟨w.heap.size + 2, 0, none⟩)), (.agg #[.int .i64 1, .int .i64 1312]), (.int .i64 0), (.int .i64 0), (.bool false), u44, u45, u46, u47, u48, u49, u50, u51, u52, u53, u54, u55, u56, u57, u58, u59, u60, u61, u62, u63, u64, u65, u66, u67, u68, u69, u70, u71, u72, u73, u74, u75, u76, u77, u78, u79, u80, u81, u82, u83, u84, u85, u86, u87, u88, u89, u90, u91, u92, u93, u94, u95, u96, u97, u98, u99, u100, u101, u102, u103, u104, u105, u106, u107, u108, u109, u110, u111, u112, u113, u114, u115, u116, u117, u118, u119, u120, u121, u122, u123, u124, u125, u126, u127, u128, u129, u130, u131, u132, u133, u134, u135, u136, u137, u138, u139, u140, u141, u142, u143, u144, u145, u146, u147, u148, u149, u150, u151, u152, u153, u154, u155, u156, u157, u158, u159, u160, u161, u162, u163, u164, u165, u166, u167, u168, u169, u170, u171, u172, u173, u174, u175, u176, u177, u178, u179, u180, u181, u182, u183, u184, u185, u186, u187, u188, u189, u190, u191, u192, u193, u194, u195, u196, u197, u198, u199, u200, u201, undef, undef, undef, undef, undef, undef, undef, undef, undef, undef, undef, undef, undef, undef, undef, undef, undef, undef, undef, undef, undef, undef, undef, undef, undef, undef, undef, undef, undef, undef, undef, undef, undef, undef, undef, undef, undef, undef, undef, undef, undef, undef, undef, undef, undef, undef, undef, undef, undef, undef], []⟩ : Act) wr := by
  conv => arg 2; whnf
  have hi300 : i < 300 := by omega
  have hel : E.length ≤ 5000 := by have := HEL.out; omega
  have HO := Lib.hid (objects_ok HLI.out.rep hel)
  clear hel
  go_wp2_with fail
  refine HO.out.mono ?_
  rintro _ w1 ⟨q, capq, L, rfl, hq, hat, hnd, hmem, hll, hu1⟩
  have hl1 := HLI.out.same hu1
  obtain ⟨e0, e1, e2, e3⟩ := HC.out w1 hl1.below
  have hpos : 0 < L.length := by
    obtain ⟨r, hr, _⟩ := hl1.rep.whole
    exact List.length_pos_of_mem ((hmem (1, r.key)).2 (.inl ⟨rfl, r, hr, rfl⟩))
  obtain ⟨n, hn⟩ : ∃ n, n = L.length := ⟨_, rfl⟩
  have hn5 : n ≤ 5000 := by have := HEL.out; omega
  rw [← hn] at hpos ⊢
  obtain ⟨k0, k1⟩ := pickI_bound xw n (by omega)
  obtain ⟨k, hk⟩ := Int.eq_ofNat_of_zero_le k0
  rw [hk] at k1
  have hkL : k < L.length := by omega
  have hkn : (k : Int) < (n : Int) := k1
  obtain ⟨c0, c1⟩ := hat k hkL
  have hob := (hmem L[k]).1 (List.getElem_mem hkL)
  have hql : q < w1.heap.size := World.block_lt_of_cell? w1 _ c0
  have hbl1 : bl < w1.heap.size := World.block_lt_of_cell? w1 _ e0
  generalize L[k] = x at c0 c1 hob
  obtain ⟨x1, x2⟩ := x
  simp only at c0 c1
  obtain ⟨v, hv⟩ : ∃ v : World, v = w1.alloc (.cells #[.int .i64 x1, .int .i64 x2] 28) := ⟨_, rfl⟩
  have huv : Upd (fun _ => False) w1 v := by rw [hv]; exact (Upd.refl _ _).alloc _
  have hbx : Blk v w1.heap.size 28 #[.int .i64 x1, .int .i64 x2] := by rw [hv]; exact Blk.new w1 _ _
  have hlv := hl1.same huv
  obtain ⟨v0, v1, v2, v3⟩ := HC.out v hlv.below
  have s0 : v.cell? ⟨w.heap.size + 3, 0, none⟩ = some (.int .i64 1) := hlv.box.cell 0
  have s1 : v.cell? ⟨w.heap.size + 3, 1, none⟩ = some (.int .i64 1312) := hlv.box.cell 1
  have b0 : v.cell? ⟨w1.heap.size, 0, none⟩ = some (.int .i64 x1) := hbx.cell 0
  have b1 : v.cell? ⟨w1.heap.size, 1, none⟩ = some (.int .i64 x2) := hbx.cell 1
  have HP := Lib.hid (pick_any xw n w1 q1 (by omega))
  have HK := Lib.hid hk
  have HV := Lib.hid hv
  have HLV := Lib.hid hlv
  have HBX := Lib.hid hbx
  have HGB := Lib.hid (show w1.heap.size ≠ w.heap.size + 1 by have := (hl1.box).lt; omega)
  have HU1 := Lib.hid hu1
  have HOB := Lib.hid hob
  have hg := eqg_obj
  clear HO hat hnd hmem hll hn hv huv hbx hlv hob hk k0 hl1 hu1
  go_wp2_with fail
  refine HP.out.mono ?_
  rintro _ _ ⟨rfl, rfl⟩
  rw [HK.out]
  go_wp2_with fail
  rw [← HV.out]
  clear e0 e1 e2 e3 c0 c1
  refine (pick_any xk 3 v q0 (by omega)).mono ?_
  rintro _ _ ⟨rfl, rfl⟩
  have hqn : (pickI xk 3 == 0) = false := by simpa using HQ.out
  rcases HOB.out with ⟨hx1, r, hr, hx2⟩ | ⟨p1, p2, p3, p4⟩
  · simp only at hx1 hx2
    subst hx1
    have HR := Lib.hid (And.intro hr hx2)
    clear hr hx2
    go_wp2_with fail
    refine (pick_any xt 8 v q2 (by omega)).mono ?_
    rintro _ _ ⟨rfl, rfl⟩
    rw [HT.out]
    go_wp2_with fail
    refine (pick_any (xt.tdiv 8) 4 v (tdiv8 q2) (by omega)).mono ?_
    rintro _ _ ⟨rfl, rfl⟩
    obtain ⟨o0, o1⟩ := pickI_bound (xt.tdiv 8) 4 (by omega)
    obtain ⟨o, hoo⟩ := Int.eq_ofNat_of_zero_le o0
    rw [hoo] at o1 ⊢
    have ho3 : o ≤ 3 := by omega
    clear hoo o0 o1
    go_upto_region 27 with (fail)
    obtain ⟨m0, m1⟩ := pickI_bound xm 5 (by omega)
    obtain ⟨cn, hcn⟩ := Int.eq_ofNat_of_zero_le m0
    rw [hcn] at m1
    obtain ⟨cnt, hcnt⟩ : ∃ cnt, cnt = 1 + cn := ⟨_, rfl⟩
    have ecn : (1 : Int) + (cn : Int) = (cnt : Int) := by omega
    have wcn : IntKind.i64.wrap (cnt : Int) = (cnt : Int) := IntWalk.i64_in _ (by omega)
    have hc5 : cnt ≤ 5 := by omega
    have hc1 : 1 ≤ cnt := by omega
    have HPM := Lib.hid (show ∀ W, Calls Try.prog 7 #[.int .i64 xm, .int .i64 5] W fun e w' => e = .returned (.int .i64 cn) ∧ W = w' from fun W => by
      rw [← hcn]
      exact pick_any xm 5 W q3 (by omega))
    have HG := Lib.hid (show ∀ W, Upd (fun _ => False) v W → Calls Try.prog 10 #[.pointer (some ⟨w.heap.size + 2, 0, none⟩), .int .i64 x2, .int .i64 1, .int .i64 o, .int .i64 cnt] W fun e w' => ∃ gv gk, e = .returned (.tuple #[gv, .int .i64 gk]) ∧ GiveB W w' w.heap.size (w.heap.size + 2) w.heap.size (w.heap.size + 1) E r 1 cnt gv gk from fun W hu => by
      have h := give_all (HLV.out.rep.grow hu (fun _ _ h => h)) HR.out.1 1 o cnt (by omega) (by omega) (by omega) (by omega) hc1 (by omega)
      rw [← HR.out.2] at h
      exact h.mono fun _ _ hg => hg.told)
    clear hcn hcnt m0 m1
    have hltI : (i : Int) < (len : Int) := by omega
    have hi00 : (0 : Int) ≤ (i : Int) := by omega
    go_cut [15, 16] (fun s15 s16 wx => ∃ gv gk, s15 = gv ∧ s16 = .int .i64 gk ∧ GiveB v.drew wx w.heap.size (w.heap.size + 2) w.heap.size (w.heap.size + 1) E r 1 cnt gv gk)
    case first =>
      go_region_with (first
        | (go_at_call 7; ((with_reducible refine (HPM.out _).mono ?_); rintro _ _ ⟨rfl, rfl⟩))
        | (go_at_call 10; ((with_reducible refine (HG.out _ ?_).mono ?_); (· exact (Upd.refl _ _).drew); rintro _ w3 ⟨gv, gk, rfl, hga⟩; have HGA := Lib.hid hga; clear hga)))
      all_goals (go_wp2_with fail; go_meet; exact ⟨_, _, rfl, rfl, HGA.out⟩)
    case rest =>
      obtain ⟨gv, gk, rfl, rfl, hga⟩ := hcut
      have HGA := Lib.hid hga
      clear hga HG HPM
      have hvd : Upd (fun _ => False) v v.drew := (Upd.refl _ _).drew
      have hxe := reg_extent HLV.out.rep HR.out.1
      rw [← HR.out.2] at hxe
      have hxb : x2 / 256 ≤ 8 ∧ x2 ≤ 100000 := by
        have h1 := (HLV.out.rep.ok r HR.out.1).key_div
        have h2 := (HLV.out.rep.ok r HR.out.1).ord
        have h3 := (HLV.out.rep.ok r HR.out.1).key
        have h4 := (HLV.out.rep.ok r HR.out.1).base_lt
        rw [← HR.out.2] at h1 h3
        omega
      have hM : 2 ^ r.ord ≤ 64 := by have := (HLV.out.rep.ok r HR.out.1).top; omega
      have hB := (HLV.out.rep.ok r HR.out.1).base_lt
      have HEX := Lib.hid (show ∀ W, Calls Try.prog 11 #[.agg #[.int .i64 1, .int .i64 x2]] W fun e w' => e = .returned (.tuple #[.int .i64 r.base, .int .i64 (2 ^ r.ord : Nat)]) ∧ Upd (fun _ => False) W w' from fun W => by
        have h := extent_ok (1, x2) W (fun _ => hxb.1) (by show x2 ≤ 1000000; omega)
        rw [hxe.1, hxe.2] at h
        exact h)
      obtain ⟨M, hMM⟩ : ∃ M, M = 2 ^ r.ord := ⟨_, rfl⟩
      rw [← hMM] at hM HEX
      obtain ⟨B, hBB⟩ : ∃ B, B = r.base := ⟨_, rfl⟩
      rw [← hBB] at hB HEX
      have HMB := Lib.hid (And.intro hMM hBB)
      clear hMM hBB hxe hxb v0 v1 v2 v3 s0 s1 b0 b1 ecn wcn
      rcases HGA.out with ⟨rfl, rfl, hu⟩ | ⟨rfl, K', E', Ls, hv, hlen2, hs, hEl2, hall⟩
      · have HLC := Lib.hid ((HLV.out.same hvd).same hu)
        have hbc := (HBX.out.upd hvd (fun h => h)).upd hu (fun h => h)
        have b0 : wc.cell? ⟨w1.heap.size, 0, none⟩ = some (.int .i64 1) := hbc.cell 0
        have b1 : wc.cell? ⟨w1.heap.size, 1, none⟩ = some (.int .i64 x2) := hbc.cell 1
        clear HGA hu hvd hbc
        go_wp2_with fail
        refine (HEX.out _).mono ?_
        rintro _ w4 ⟨rfl, hu4⟩
        have HL4 := Lib.hid (HLC.out.same hu4)
        clear hu4 HEX b0 b1
        go_wp2_with fail
        go_loopw [19] (fun vt wr => w4 = wr ∧ vt = .int .i64 0) (fun _ _ => 0)
        case atStart => exact ⟨rfl, rfl⟩
        case round =>
          obtain ⟨rfl, rfl⟩ := hrel
          have HOB5 := Lib.hid (objects_ok HL4.out.rep (by have := HEL.out; omega))
          go_wp2_with fail
          refine HOB5.out.mono ?_
          rintro _ w5 ⟨q5, cap5, L5, rfl, hq5, hat5, hnd5, hmem5, hll5, hu5⟩
          have hl5 := HL4.out.same hu5
          have HAP := Lib.hid (apart_ok q5 cap5 L5 w5 hat5 (fun x hx => ob_bounds hl5.rep ((hmem5 x).1 hx)) (objs_apart hl5.rep hnd5 hmem5) (by have := HEL.out; omega))
          have HL5 := Lib.hid hl5
          clear hq5 hat5 hnd5 hmem5 hll5 hu5 hl5 HOB5
          go_wp2_with fail
          refine HAP.out.mono ?_
          rintro _ w6 ⟨rfl, hu6⟩
          have HL6 := Lib.hid (HL5.out.same hu6)
          clear hu6
          go_wp2_with fail
          go_roundw
          all_goals first
            | exact ⟨i + 1, _, _, by omega, by omega, by go_num, by have := HEL.out; omega, HL6.out⟩
            | (repeat apply Exists.intro); exact ⟨⟨i + 1, _, _, by omega, by omega, by go_num, by have := HEL.out; omega, HL6.out⟩, rfl⟩
            | (simp [intOf]; omega)
      · have HLC := Lib.hid ((HLV.out.same hvd).step hs)
        have hbc := (HBX.out.upd hvd (fun h => h)).upd hs.upd ((HLV.out.same hvd).rep.not_own_ob (HBX.out.upd hvd (fun h => h)) HGB.out)
        have b0 : wc.cell? ⟨w1.heap.size, 0, none⟩ = some (.int .i64 1) := hbc.cell 0
        have b1 : wc.cell? ⟨w1.heap.size, 1, none⟩ = some (.int .i64 x2) := hbc.cell 1
        obtain ⟨g, capg, rfl, hg5, hgl, hcell⟩ := hv.cell (by omega)
        rw [hlen2]
        have HCELL := Lib.hid hcell
        have HALL := Lib.hid hall
        have HLEN := Lib.hid hlen2
        have HE2 := Lib.hid hEl2
        have hcn0 : ((cnt : Int) == 0) = false := by
          have : (cnt : Int) ≠ 0 := by omega
          simpa using this
        clear HGA hs hvd hbc hv hcell hall hlen2 hEl2 hg5
        go_wp2_with fail
        refine (HEX.out _).mono ?_
        rintro _ w4 ⟨rfl, hu4⟩
        have HL4 := Lib.hid (HLC.out.same hu4)
        have HU4 := Lib.hid hu4
        clear hu4 HEX b0 b1
        go_wp2_with fail
        go_loopw [19] (fun vt wr => Upd (fun _ => False) w4 wr ∧ ∃ t : Nat, t ≤ cnt ∧ vt = .int .i64 t) (fun t _ => cnt - (intOf t).toNat)
        case atStart => exact ⟨Upd.refl _ _, 0, by omega, rfl⟩
        case round =>
          obtain ⟨hur, t, ht, rfl⟩ := hrel
          rcases Nat.lt_or_ge t cnt with htl | htg
          · have htL : t < Ls.length := by rw [HLEN.out]; exact htl
            obtain ⟨x, hx1, hx2, hx3, hx4, hx5, hx6⟩ := HALL.out t htL
            have ct : wr.cell? ⟨g, t, none⟩ = some (.int .i64 x) := by
              have h1 := HCELL.out t htL
              rw [hx1] at h1
              exact ((hur.block g (Nat.lt_of_lt_of_le hgl HU4.out.size) (fun h => h)).trans (HU4.out.block g hgl (fun h => h))) |> fun hb => (World.cell?_of_block hb).trans h1
            rw [← HMB.out.2] at hx4 hx5
            rw [← HMB.out.1] at hx5 hx6
            have HE5 := Lib.hid (extent_ok (1, x) wr (by first | exact hx3 | exact fun _ => hx3 trivial) (by show x ≤ 1000000; omega))
            unfold obV at HE5
            have hsm : obBase (1, x) ≤ 100000 ∧ obLen (1, x) ≤ 256 := ob_small (x := (1, x)) (by first | exact hx3 | exact fun _ => hx3 trivial) hx2
            generalize obBase (1, x) = a at hx4 hx5 HE5 hsm
            generalize obLen (1, x) = y at hx5 hx6 HE5 hsm
            obtain ⟨hsm1, hsm2⟩ := hsm
            have htl2 : (t : Int) < (cnt : Int) := by omega
            have z1 : decide (a < B) = false := decide_eq_false (by omega)
            have z2 : decide ((B : Int) + (M : Int) < (a : Int) + (y : Int)) = false := decide_eq_false (by omega)
            have z3 : decide (M ≤ y) = false := decide_eq_false (by have h6 : y < M := (by first | exact hx6 rfl | exact hx6 trivial); omega)
            have HUR := Lib.hid hur
            clear hur hx1 hx2 hx3 hx4 hx5 hx6
            go_wp2_with fail
            refine HE5.out.mono ?_
            rintro _ w5 ⟨rfl, hu5⟩
            have HU5 := Lib.hid (HUR.out.trans hu5 (fun _ _ h => h))
            clear hu5
            go_wp2_with fail
            go_roundw
            all_goals first
              | exact ⟨HU5.out, t + 1, by omega, by go_num⟩
              | (simp [intOf]; omega)
          · obtain rfl : t = cnt := by omega
            have HLR := Lib.hid (HL4.out.same hur)
            have HOB5 := Lib.hid (objects_ok HLR.out.rep (by have := HEL.out; have := HE2.out; omega))
            clear hur
            go_wp2_with fail
            refine HOB5.out.mono ?_
            rintro _ w5 ⟨q5, cap5, L5, rfl, hq5, hat5, hnd5, hmem5, hll5, hu5⟩
            have hl5 := HLR.out.same hu5
            have HAP := Lib.hid (apart_ok q5 cap5 L5 w5 hat5 (fun x hx => ob_bounds hl5.rep ((hmem5 x).1 hx)) (objs_apart hl5.rep hnd5 hmem5) (by have := HEL.out; have := HE2.out; omega))
            have HL5 := Lib.hid hl5
            clear hq5 hat5 hnd5 hmem5 hll5 hu5 hl5 HOB5
            go_wp2_with fail
            refine HAP.out.mono ?_
            rintro _ w6 ⟨rfl, hu6⟩
            have HL6 := Lib.hid (HL5.out.same hu6)
            clear hu6
            go_wp2_with fail
            go_roundw
            all_goals first
              | exact ⟨i + 1, _, _, by omega, by omega, by go_num, by have := HEL.out; have := HE2.out; omega, HL6.out⟩
              | (repeat apply Exists.intro); exact ⟨⟨i + 1, _, _, by omega, by omega, by go_num, by have := HEL.out; have := HE2.out; omega, HL6.out⟩, rfl⟩
              | (simp [intOf]; omega)
  · simp only at p1 p2 p3 p4
    have hnb' : ((x1 : Int) != 1) = true := by
      have : (x1 : Int) ≠ 1 := by omega
      simpa using this
    clear p4
    go_wp2_with fail
    go_roundw
    case rel => exact ⟨i + 1, _, _, by omega, by omega, by go_num, by have := HEL.out; omega, HLV.out⟩
    case measure => simp [intOf]; omega
end Go.Proofs.Ytjjgdacjfmiamaa
