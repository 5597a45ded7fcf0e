/- The walk of the law PoolApart. -/
import Derived.Test.YtjjgdacjfmiamaaPoolArmA
import Derived.Test.YtjjgdacjfmiamaaPoolArmC
import Derived.Test.YtjjgdacjfmiamaaPoolArmD
import Derived.Test.YtjjgdacjfmiamaaPoolFin2
namespace Go.Proofs.Ytjjgdacjfmiamaa
open Go.RowKit Go.Lib

set_option maxRecDepth 1000000 in
set_option maxHeartbeats 40000000 in
theorem poolApart_walk (Ad : Option Addr) (bl off len cap : Nat) (hAd : 0 < len → Ad = some ⟨bl, off, none⟩) (ks ws ts ms : Nat → Int) (w : World)
    (hl : ∀ i, i < len → w.cell? ⟨bl, off + i * 4, none⟩ = some (.int .i64 (ks i)) ∧ w.cell? ⟨bl, off + i * 4 + 1, none⟩ = some (.int .i64 (ws i)) ∧ w.cell? ⟨bl, off + i * 4 + 2, none⟩ = some (.int .i64 (ts i)) ∧ w.cell? ⟨bl, off + i * 4 + 3, none⟩ = some (.int .i64 (ms i)))
    (hw : ∀ i, i < len → (-9223372036854775808 ≤ ks i ∧ ks i ≤ 9223372036854775807) ∧ (-9223372036854775808 ≤ ws i ∧ ws i ≤ 9223372036854775807) ∧ (-9223372036854775808 ≤ ts i ∧ ts i ≤ 9223372036854775807) ∧ (-9223372036854775808 ≤ ms i ∧ ms i ≤ 9223372036854775807))
    (hlen : len ≤ 9223372036854775807) :
    Calls Try.prog 3 #[.slice Ad len cap] w fun e w' => e = .returned (.bool true) ∧ Below w.heap.size w w' := by
  have hbl : 0 < len → bl < w.heap.size := fun h => World.block_lt_of_cell? w _ (hl 0 h).1
  have HAd := Lib.hid hAd
  have HL := Lib.hid hl
  have HWf := Lib.hid hw
  have HBL := Lib.hid hbl
  clear hAd hl hw hbl
  go_enter Try.func3, Try.ntmps3
  go_wp2_with fail
  refine (poolNew_ok w).mono ?_
  rintro _ w1 ⟨rfl, hw1⟩
  have z1 : (w.alloc (.map #[] 0)).heap.size = w.heap.size + 1 := by rw [World.alloc]; simp only [Array.size_push]
  have z2 : ((w.alloc (.map #[] 0)).alloc (.cells (Array.replicate 128 (.int .i64 0)) 28)).heap.size = w.heap.size + 2 := by rw [World.alloc]; simp only [Array.size_push]; rw [z1]
  have z3 : w1.heap.size = w.heap.size + 3 := by rw [hw1, World.alloc]; simp only [Array.size_push]; rw [z2]
  obtain ⟨cs, hcs⟩ : ∃ cs, cs = Array.replicate 128 (Value.int .i64 0) := ⟨_, rfl⟩
  rw [← hcs] at hw1 z2
  have HCS := Lib.hid (hcs.trans pages0)
  have HW1 := Lib.hid hw1
  have HZ := Lib.hid (And.intro z1 (And.intro z2 z3))
  clear hw1 hcs z1 z2
  go_wp2_with fail
  refine (start_call w HCS.out _ (by rw [HW1.out])).mono ?_
  rintro _ w2 ⟨rfl, rb, hli⟩
  have HLI := Lib.hid hli
  clear hli z3
  go_wp2_with fail
  go_loopw [6] (fun vi wr => ∃ (i : Nat) (K : Nat → Nat) (E : List Reg), i ≤ len ∧ i ≤ 300 ∧ vi = .int .i64 i ∧ E.length ≤ 1 + 5 * i ∧ LI w wr K E) (fun i _ => len - (intOf i).toNat)
  case atStart => exact ⟨0, _, _, by omega, by omega, rfl, by simp, HLI.out⟩
  case round =>
    clear HLI HZ HW1 HCS
    obtain ⟨i, K, E, hi, hi3, rfl, hel, hli⟩ := hrel
    have HI3 := Lib.hid hi3
    have HEL := Lib.hid hel
    have HLI := Lib.hid hli
    clear hi3 hel hli
    by_cases hin : i < len ∧ i < 300
    · obtain ⟨hlt, hlt3⟩ := hin
      have hAe := HAd.out (by omega)
      subst hAe
      have hd2 : decide ((i : Int) < 300) = true := decide_eq_true (by omega)
      have hi0 : (i : Int) < 300 := by omega
      have hcells := HL.out i hlt
      have hbk := HBL.out (by omega)
      have HC := Lib.hid (show ∀ w', Below w.heap.size w w' → w'.cell? ⟨bl, off + i * 4, none⟩ = some (.int .i64 (ks i)) ∧ w'.cell? ⟨bl, off + i * 4 + 1, none⟩ = some (.int .i64 (ws i)) ∧ w'.cell? ⟨bl, off + i * 4 + 2, none⟩ = some (.int .i64 (ts i)) ∧ w'.cell? ⟨bl, off + i * 4 + 3, none⟩ = some (.int .i64 (ms i)) from fun w' hb => by
        obtain ⟨h1, h2, h3, h4⟩ := hcells
        exact ⟨(hb.cell (p := ⟨bl, off + i * 4, none⟩) hbk).trans h1, (hb.cell (p := ⟨bl, off + i * 4 + 1, none⟩) hbk).trans h2, (hb.cell (p := ⟨bl, off + i * 4 + 2, none⟩) hbk).trans h3, (hb.cell (p := ⟨bl, off + i * 4 + 3, none⟩) hbk).trans h4⟩)
      obtain ⟨q0, q1, q2, q3⟩ := HWf.out i hlt
      generalize ks i = xk at HC q0
      generalize ws i = xw at HC q1
      generalize ts i = xt at HC q2
      generalize ms i = xm at HC q3
      by_cases hk : pickI xk 3 = 0
      · exact arm_a hlen hlt hi hd2 hi0 HC q0 q1 q2 q3 HLI HEL (Lib.hid hk)
      · obtain ⟨t0, t8⟩ := pickI_bound xt 8 (by omega)
        obtain ⟨T, hT⟩ := Int.eq_ofNat_of_zero_le t0
        rw [hT] at t8
        rcases Nat.eq_zero_or_pos T with hT0 | hT0
        · subst hT0
          exact arm_c hlen hlt hi hd2 hi0 HC q0 q1 q2 q3 HLI HEL (Lib.hid hk) (Lib.hid hT)
        · exact arm_d (T := T) (kd := 1 + T) hlen hlt hi hd2 hi0 HC q0 q1 q2 q3 HLI HEL (Lib.hid hk) (Lib.hid hT) hT0 (by omega) rfl
    · have hend : len ≤ i ∨ (i < len ∧ decide ((i : Int) < 300) = false) := by
        by_cases h1 : i < len
        · exact .inr ⟨h1, decide_eq_false (by omega)⟩
        · exact .inl (by omega)
      have HELN := Lib.hid (show E.length ≤ 5000 by have := HEL.out; have := HI3.out; omega)
      clear hin HEL HI3
      have HEND := Lib.hid hend
      clear hend
      obtain ⟨wo, rfl⟩ : ∃ wo : World, wo = wr := ⟨_, rfl⟩
      rcases HEND.out with hge | ⟨hlt, hd3⟩
      · go_wp2_with fail
        go_loopw [23] (fun vn wr => ∃ (m : Nat) (K : Nat → Nat) (E : List Reg), m ≤ 100 ∧ vn = .int .i64 m ∧ E.length ≤ 5000 ∧ Ph m K E ∧ LI w wr K E) (fun n _ => 100 - (intOf n).toNat)
        case atStart => exact ⟨0, K, E, by omega, rfl, HELN.out, ⟨fun h => absurd h (by omega), fun _ _ _ => by omega⟩, HLI.out⟩
        case round =>
          clear HELN HLI HEND HWf HL HBL HAd
          obtain ⟨m, K, E, hm, rfl, hel, hph, hli⟩ := hrel
          rcases Nat.lt_or_ge m 100 with hlm | hgm
          · have HO := Lib.hid (objects_ok hli.rep hel)
            have HH := Lib.hid (And.intro hel (And.intro hph hli))
            have hlmI : (m : Int) < 100 := by omega
            clear hel hph hli
            go_wp2_with fail
            refine HO.out.mono ?_
            rintro _ w1 ⟨q, capq, L, rfl, hq, hat, hnd, hmem, hll, hu1⟩
            have HF := Lib.hid (show FI w w1 wr.heap.size q L m 0 K E from ⟨HH.out.2.2.same hu1, QI.start HH.out.2.2.rep hmem HH.out.2.1, hat, fun i hi => HH.out.2.2.rep.lt i hi, HH.out.1⟩)
            have HQ := Lib.hid hq
            have HX := Lib.hid (show ∀ x ∈ L, x.1 = 1 ∨ 2 ≤ x.1 ∧ x.2 < 64 from fun x hx => by
              rcases (hmem x).1 hx with ⟨h1, _⟩ | ⟨h1, _, h3, _⟩
              · exact .inl h1
              · exact .inr ⟨h1, h3⟩)
            obtain ⟨n, hn⟩ : ∃ n, n = L.length := ⟨_, rfl⟩
            have hn5 : n ≤ 6000 := by have := HH.out.1; omega
            rw [← hn]
            have HN := Lib.hid hn
            have hg := eqg_obj
            clear HO HH hq hat hnd hmem hll hu1 hn
            obtain ⟨S, hS⟩ : ∃ S, S = wr.heap.size := ⟨_, rfl⟩
            rw [← hS] at HF HQ
            clear hS
            go_wp2_with fail
            go_loopw [25] (fun vt wr => ∃ (t : Nat) (K : Nat → Nat) (E : List Reg), t ≤ n ∧ vt = .int .i64 t ∧ FI w wr S q L m t K E) (fun t _ => n - (intOf t).toNat)
            case atStart => exact ⟨0, K, E, by omega, rfl, HF.out⟩
            case round =>
              clear HF
              obtain ⟨t, K, E, ht, rfl, hfi⟩ := hrel
              rcases Nat.lt_or_ge t n with hlt | hgt
              · have htL : t < L.length := by rw [← HN.out]; exact hlt
                have c0 := fun d => ((hfi.obs.upd ((Upd.refl (fun _ => False) wr).drewN d) (fun h => h)) t htL).1
                have c1 := fun d => ((hfi.obs.upd ((Upd.refl (fun _ => False) wr).drewN d) (fun h => h)) t htL).2
                have s0 : ∀ d, (wr.drewN d).cell? ⟨w.heap.size + 3, 0, none⟩ = some (.int .i64 1) := fun d => (hfi.li.box.drewN d).cell 0
                have s1 : ∀ d, (wr.drewN d).cell? ⟨w.heap.size + 3, 1, none⟩ = some (.int .i64 1312) := fun d => (hfi.li.box.drewN d).cell 1
                have hxk := HX.out L[t] (List.getElem_mem htL)
                have hget : L[t]? = some L[t] := List.getElem?_eq_getElem htL
                generalize L[t] = x at c0 c1 hxk hget
                obtain ⟨x1, x2⟩ := x
                simp only at c0 c1
                have hltI : (t : Int) < (n : Int) := by omega
                have htI : (0 : Int) ≤ (t : Int) := by omega
                by_cases hw : ((x1, x2) : Ob) = (1, 1312)
                · obtain ⟨rfl, rfl⟩ : x1 = 1 ∧ x2 = 1312 := by simpa using hw
                  have hqi : QI L m (t + 1) K E := hfi.qi.skip hget (fun j hj hK e => by
                    have e1 := congrArg Prod.fst e
                    have e2 := hfi.li.rep.kinds j hj
                    simp only at e1
                    omega) (fun r hr hk _ _ e => hk (congrArg Prod.snd e).symm)
                  have HFI := Lib.hid (show ∀ d, FI w (wr.drewN d) S q L m (t + 1) K E from fun d => hfi.same ((Upd.refl (fun _ => False) wr).drewN d) hqi)
                  clear hfi hqi hxk hget hw
                  go_wp2_with fail
                  go_quiet (fail)
                  go_wp2_with fail
                  go_roundw
                  all_goals first
                    | exact ⟨t + 1, K, E, by omega, by go_num, HFI.out _⟩
                    | (simp [intOf]; omega)
                · have hne : ¬ ((x1 : Int) = 1 ∧ (x2 : Int) = 1312) := fun e => hw (by
                    have e1 : x1 = 1 := by omega
                    have e2 : x2 = 1312 := by omega
                    rw [e1, e2])
                  have HR := Lib.hid (show ∀ d, Calls Try.prog 9 #[.pointer (some ⟨w.heap.size + 2, 0, none⟩), .agg #[.int .i64 x1, .int .i64 x2]] (wr.drewN d) fun e w' => ∃ k K' E', e = .returned (.int .i64 k) ∧ FI w w' S q L m (t + 1) K' E' from fun d =>
                    FI.remove (x := (x1, x2)) (wr := wr.drewN d) (K := K) (E := E) (⟨hfi.li.same ((Upd.refl (fun _ => False) wr).drewN d), hfi.qi, hfi.obs.upd ((Upd.refl (fun _ => False) wr).drewN d) (fun h => h), hfi.own, hfi.len⟩) HQ.out hget hxk hw)
                  clear hfi hxk hget hw
                  have hcase : (x1 : Int) = 1 ∧ ¬ (x2 : Int) = 1312 ∨ ¬ (x1 : Int) = 1 := by
                    by_cases e : (x1 : Int) = 1
                    · exact .inl ⟨e, fun e2 => hne ⟨e, e2⟩⟩
                    · exact .inr e
                  clear hne
                  rcases hcase with ⟨e1, hne⟩ | hne
                  · obtain rfl : x1 = 1 := by omega
                    clear e1
                    go_wp2_with fail
                    go_quiet (fail)
                    go_wp2_with fail
                    refine (HR.out _).mono ?_
                    rintro _ w5 ⟨kk, K', E', rfl, hf5⟩
                    have HF5 := Lib.hid hf5
                    clear hf5
                    go_wp2_with fail
                    go_roundw
                    all_goals first
                      | exact ⟨t + 1, K', E', by omega, by go_num, HF5.out⟩
                      | (simp [intOf]; omega)
                  · go_wp2_with fail
                    go_quiet (fail)
                    go_wp2_with fail
                    refine (HR.out _).mono ?_
                    rintro _ w5 ⟨kk, K', E', rfl, hf5⟩
                    have HF5 := Lib.hid hf5
                    clear hf5
                    go_wp2_with fail
                    go_roundw
                    all_goals first
                      | exact ⟨t + 1, K', E', by omega, by go_num, HF5.out⟩
                      | (simp [intOf]; omega)
              · obtain rfl : n = t := by omega
                have hdone : Ph (m + 1) K E := by
                  have h := hfi.qi
                  rw [HN.out] at h
                  exact h.done
                have HD := Lib.hid (And.intro hfi.len (And.intro hdone hfi.li))
                clear hfi hdone
                go_wp2_with fail
                go_roundw
                all_goals first
                  | exact ⟨m + 1, K, E, by omega, by go_num, HD.out.1, HD.out.2.1, HD.out.2.2⟩
                  | (simp [intOf]; omega)
          · obtain rfl : m = 100 := by omega
            have HG := Lib.hid (final_give hli.rep hph)
            have HB := Lib.hid hli.below
            have s1 : wr.cell? ⟨w.heap.size + 3, 1, none⟩ = some (.int .i64 1312) := hli.box.cell 1
            clear hel hph hli
            go_wp2_with fail
            refine HG.out.mono ?_
            rintro _ w5 ⟨g, capg, rfl, k0, k1, hu5⟩
            have HU5 := Lib.hid hu5
            clear hu5
            go_wp2_with fail
            go_ret
            exact ⟨rfl, ((Upd.of_below HB.out (fun _ => False)).trans HU5.out (fun i hi hg => by omega)).below (fun _ _ h => h)⟩
      · go_wp2_with fail
        go_loopw [23] (fun vn wr => ∃ (m : Nat) (K : Nat → Nat) (E : List Reg), m ≤ 100 ∧ vn = .int .i64 m ∧ E.length ≤ 5000 ∧ Ph m K E ∧ LI w wr K E) (fun n _ => 100 - (intOf n).toNat)
        case atStart => exact ⟨0, K, E, by omega, rfl, HELN.out, ⟨fun h => absurd h (by omega), fun _ _ _ => by omega⟩, HLI.out⟩
        case round =>
          clear HELN HLI HEND HWf HL HBL HAd
          obtain ⟨m, K, E, hm, rfl, hel, hph, hli⟩ := hrel
          rcases Nat.lt_or_ge m 100 with hlm | hgm
          · have HO := Lib.hid (objects_ok hli.rep hel)
            have HH := Lib.hid (And.intro hel (And.intro hph hli))
            have hlmI : (m : Int) < 100 := by omega
            clear hel hph hli
            go_wp2_with fail
            refine HO.out.mono ?_
            rintro _ w1 ⟨q, capq, L, rfl, hq, hat, hnd, hmem, hll, hu1⟩
            have HF := Lib.hid (show FI w w1 wr.heap.size q L m 0 K E from ⟨HH.out.2.2.same hu1, QI.start HH.out.2.2.rep hmem HH.out.2.1, hat, fun i hi => HH.out.2.2.rep.lt i hi, HH.out.1⟩)
            have HQ := Lib.hid hq
            have HX := Lib.hid (show ∀ x ∈ L, x.1 = 1 ∨ 2 ≤ x.1 ∧ x.2 < 64 from fun x hx => by
              rcases (hmem x).1 hx with ⟨h1, _⟩ | ⟨h1, _, h3, _⟩
              · exact .inl h1
              · exact .inr ⟨h1, h3⟩)
            obtain ⟨n, hn⟩ : ∃ n, n = L.length := ⟨_, rfl⟩
            have hn5 : n ≤ 6000 := by have := HH.out.1; omega
            rw [← hn]
            have HN := Lib.hid hn
            have hg := eqg_obj
            clear HO HH hq hat hnd hmem hll hu1 hn
            obtain ⟨S, hS⟩ : ∃ S, S = wr.heap.size := ⟨_, rfl⟩
            rw [← hS] at HF HQ
            clear hS
            go_wp2_with fail
            go_loopw [25] (fun vt wr => ∃ (t : Nat) (K : Nat → Nat) (E : List Reg), t ≤ n ∧ vt = .int .i64 t ∧ FI w wr S q L m t K E) (fun t _ => n - (intOf t).toNat)
            case atStart => exact ⟨0, K, E, by omega, rfl, HF.out⟩
            case round =>
              clear HF
              obtain ⟨t, K, E, ht, rfl, hfi⟩ := hrel
              rcases Nat.lt_or_ge t n with hlt | hgt
              · have htL : t < L.length := by rw [← HN.out]; exact hlt
                have c0 := fun d => ((hfi.obs.upd ((Upd.refl (fun _ => False) wr).drewN d) (fun h => h)) t htL).1
                have c1 := fun d => ((hfi.obs.upd ((Upd.refl (fun _ => False) wr).drewN d) (fun h => h)) t htL).2
                have s0 : ∀ d, (wr.drewN d).cell? ⟨w.heap.size + 3, 0, none⟩ = some (.int .i64 1) := fun d => (hfi.li.box.drewN d).cell 0
                have s1 : ∀ d, (wr.drewN d).cell? ⟨w.heap.size + 3, 1, none⟩ = some (.int .i64 1312) := fun d => (hfi.li.box.drewN d).cell 1
                have hxk := HX.out L[t] (List.getElem_mem htL)
                have hget : L[t]? = some L[t] := List.getElem?_eq_getElem htL
                generalize L[t] = x at c0 c1 hxk hget
                obtain ⟨x1, x2⟩ := x
                simp only at c0 c1
                have hltI : (t : Int) < (n : Int) := by omega
                have htI : (0 : Int) ≤ (t : Int) := by omega
                by_cases hw : ((x1, x2) : Ob) = (1, 1312)
                · obtain ⟨rfl, rfl⟩ : x1 = 1 ∧ x2 = 1312 := by simpa using hw
                  have hqi : QI L m (t + 1) K E := hfi.qi.skip hget (fun j hj hK e => by
                    have e1 := congrArg Prod.fst e
                    have e2 := hfi.li.rep.kinds j hj
                    simp only at e1
                    omega) (fun r hr hk _ _ e => hk (congrArg Prod.snd e).symm)
                  have HFI := Lib.hid (show ∀ d, FI w (wr.drewN d) S q L m (t + 1) K E from fun d => hfi.same ((Upd.refl (fun _ => False) wr).drewN d) hqi)
                  clear hfi hqi hxk hget hw
                  go_wp2_with fail
                  go_quiet (fail)
                  go_wp2_with fail
                  go_roundw
                  all_goals first
                    | exact ⟨t + 1, K, E, by omega, by go_num, HFI.out _⟩
                    | (simp [intOf]; omega)
                · have hne : ¬ ((x1 : Int) = 1 ∧ (x2 : Int) = 1312) := fun e => hw (by
                    have e1 : x1 = 1 := by omega
                    have e2 : x2 = 1312 := by omega
                    rw [e1, e2])
                  have HR := Lib.hid (show ∀ d, Calls Try.prog 9 #[.pointer (some ⟨w.heap.size + 2, 0, none⟩), .agg #[.int .i64 x1, .int .i64 x2]] (wr.drewN d) fun e w' => ∃ k K' E', e = .returned (.int .i64 k) ∧ FI w w' S q L m (t + 1) K' E' from fun d =>
                    FI.remove (x := (x1, x2)) (wr := wr.drewN d) (K := K) (E := E) (⟨hfi.li.same ((Upd.refl (fun _ => False) wr).drewN d), hfi.qi, hfi.obs.upd ((Upd.refl (fun _ => False) wr).drewN d) (fun h => h), hfi.own, hfi.len⟩) HQ.out hget hxk hw)
                  clear hfi hxk hget hw
                  have hcase : (x1 : Int) = 1 ∧ ¬ (x2 : Int) = 1312 ∨ ¬ (x1 : Int) = 1 := by
                    by_cases e : (x1 : Int) = 1
                    · exact .inl ⟨e, fun e2 => hne ⟨e, e2⟩⟩
                    · exact .inr e
                  clear hne
                  rcases hcase with ⟨e1, hne⟩ | hne
                  · obtain rfl : x1 = 1 := by omega
                    clear e1
                    go_wp2_with fail
                    go_quiet (fail)
                    go_wp2_with fail
                    refine (HR.out _).mono ?_
                    rintro _ w5 ⟨kk, K', E', rfl, hf5⟩
                    have HF5 := Lib.hid hf5
                    clear hf5
                    go_wp2_with fail
                    go_roundw
                    all_goals first
                      | exact ⟨t + 1, K', E', by omega, by go_num, HF5.out⟩
                      | (simp [intOf]; omega)
                  · go_wp2_with fail
                    go_quiet (fail)
                    go_wp2_with fail
                    refine (HR.out _).mono ?_
                    rintro _ w5 ⟨kk, K', E', rfl, hf5⟩
                    have HF5 := Lib.hid hf5
                    clear hf5
                    go_wp2_with fail
                    go_roundw
                    all_goals first
                      | exact ⟨t + 1, K', E', by omega, by go_num, HF5.out⟩
                      | (simp [intOf]; omega)
              · obtain rfl : n = t := by omega
                have hdone : Ph (m + 1) K E := by
                  have h := hfi.qi
                  rw [HN.out] at h
                  exact h.done
                have HD := Lib.hid (And.intro hfi.len (And.intro hdone hfi.li))
                clear hfi hdone
                go_wp2_with fail
                go_roundw
                all_goals first
                  | exact ⟨m + 1, K, E, by omega, by go_num, HD.out.1, HD.out.2.1, HD.out.2.2⟩
                  | (simp [intOf]; omega)
          · obtain rfl : m = 100 := by omega
            have HG := Lib.hid (final_give hli.rep hph)
            have HB := Lib.hid hli.below
            have s1 : wr.cell? ⟨w.heap.size + 3, 1, none⟩ = some (.int .i64 1312) := hli.box.cell 1
            clear hel hph hli
            go_wp2_with fail
            refine HG.out.mono ?_
            rintro _ w5 ⟨g, capg, rfl, k0, k1, hu5⟩
            have HU5 := Lib.hid hu5
            clear hu5
            go_wp2_with fail
            go_ret
            exact ⟨rfl, ((Upd.of_below HB.out (fun _ => False)).trans HU5.out (fun i hi hg => by omega)).below (fun _ _ h => h)⟩
end Go.Proofs.Ytjjgdacjfmiamaa
