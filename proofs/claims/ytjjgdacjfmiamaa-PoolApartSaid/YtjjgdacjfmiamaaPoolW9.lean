/- pool: Objects: all that lie in memory. -/
import Derived.Test.YtjjgdacjfmiamaaPoolW8
namespace Go.Proofs.Ytjjgdacjfmiamaa
open Go.RowKit Go.Lib

/-- The objects of the first k pages. -/
def pgL (K : Nat → Nat) : Nat → List Ob
  | 0 => []
  | k + 1 => if K k = 0 then pgL K k else pgL K k ++ [(K k, k)]
def obR (r : Reg) : Ob := (1, r.key)

theorem pgL_mem (K : Nat → Nat) : ∀ k (x : Ob), x ∈ pgL K k ↔ (x.2 < k ∧ K x.2 = x.1 ∧ x.1 ≠ 0)
  | 0, x => by simp [pgL]
  | k + 1, x => by
    unfold pgL
    split
    · rename_i h
      rw [pgL_mem K k x]
      constructor
      · rintro ⟨a, b, c⟩; exact ⟨by omega, b, c⟩
      · rintro ⟨a, b, c⟩
        refine ⟨?_, b, c⟩
        rcases Nat.lt_or_ge x.2 k with h1 | h1
        · exact h1
        · have e : x.2 = k := by omega
          rw [e, h] at b
          exact absurd b.symm c
    · rename_i h
      rw [List.mem_append, pgL_mem K k x, List.mem_singleton]
      constructor
      · rintro (⟨a, b, c⟩ | rfl)
        · exact ⟨by omega, b, c⟩
        · exact ⟨Nat.lt_succ_self k, rfl, h⟩
      · rintro ⟨a, b, c⟩
        rcases Nat.lt_or_ge x.2 k with h1 | h1
        · exact .inl ⟨h1, b, c⟩
        · have e : x.2 = k := by omega
          refine .inr ?_
          obtain ⟨x1, x2⟩ := x
          simp only at e b
          subst e
          rw [b]
theorem pgL_len (K : Nat → Nat) : ∀ k, (pgL K k).length ≤ k
  | 0 => Nat.le_refl _
  | k + 1 => by
    unfold pgL
    have := pgL_len K k
    split
    · omega
    · simp; omega
theorem pgL_nodup (K : Nat → Nat) : ∀ k, (pgL K k).Nodup
  | 0 => List.nodup_nil
  | k + 1 => by
    unfold pgL
    split
    · exact pgL_nodup K k
    · rw [List.nodup_append]
      refine ⟨pgL_nodup K k, by simp, ?_⟩
      intro a ha b hb
      rw [List.mem_singleton] at hb
      subst hb
      rintro rfl
      have := (pgL_mem K k (K k, k)).1 ha
      simp only at this
      omega

/-- All the objects, in some order. -/
theorem all_obs {w : World} {base pb mb gb : Nat} {K : Nat → Nat} {E : List Reg} (h : PRep w base pb mb gb K E) {vs : List Reg} (hn : (vs.map entR).Nodup) (hs : ∀ x ∈ vs, x ∈ E) (hall : ∀ x ∈ E, entR x ∈ vs.map entR) :
    (pgL K 64 ++ vs.map obR).Nodup ∧ (∀ x, x ∈ pgL K 64 ++ vs.map obR ↔ ObOk K E x) := by
  have hk : ∀ i, i < 64 → K i ≠ 0 → 2 ≤ K i ∧ K i ≤ 8 := fun i hi h0 => (h.kinds i hi).resolve_left h0
  refine ⟨?_, fun x => ?_⟩
  · rw [List.nodup_append]
    refine ⟨pgL_nodup K 64, ?_, ?_⟩
    · have hpw : vs.Pairwise (fun a b => entR a ≠ entR b) := List.pairwise_map.1 hn
      rw [List.Nodup, List.pairwise_map]
      refine hpw.imp_of_mem ?_
      intro a b ha hb hab e
      apply hab
      have : a.key = b.key := congrArg Prod.snd e
      rw [mem_of_key h (hs a ha) (hs b hb) this]
    · intro a ha b hb
      obtain ⟨r, hr, rfl⟩ := List.mem_map.1 hb
      rintro rfl
      obtain ⟨h1, h2, h3⟩ := (pgL_mem K 64 (obR r)).1 ha
      have := (hk _ h1 (by rw [h2]; exact h3)).1
      rw [h2] at this
      exact absurd this (by show ¬ 2 ≤ 1; omega)
  · rw [List.mem_append, pgL_mem]
    constructor
    · rintro (⟨h1, h2, h3⟩ | hx)
      · obtain ⟨a, b⟩ := hk _ h1 (by rw [h2]; exact h3)
        rw [h2] at a b
        exact .inr ⟨a, b, h1, h2⟩
      · obtain ⟨r, hr, rfl⟩ := List.mem_map.1 hx
        exact .inl ⟨rfl, r, hs r hr, rfl⟩
    · rintro (⟨h1, r, hr, h2⟩ | ⟨h1, h2, h3, h4⟩)
      · obtain ⟨s, hs', he⟩ := List.mem_map.1 (hall r hr)
        have hk' : s.key = r.key := by
          have := congrArg (fun e : Ent => e.1) he
          simp only [entR] at this
          omega
        refine .inr (List.mem_map.2 ⟨s, hs', ?_⟩)
        obtain ⟨x1, x2⟩ := x
        simp only at h1 h2
        subst h1 h2
        show (1, s.key) = _
        rw [hk']
      · exact .inl ⟨h3, h4, by omega⟩

set_option maxRecDepth 100000 in
set_option maxHeartbeats 4000000 in
theorem objects_ok {w : World} {base pb mb gb : Nat} {K : Nat → Nat} {E : List Reg} (h : PRep w base pb mb gb K E) (hE : E.length ≤ 5000) :
    Calls Try.prog 6 #[.pointer (some ⟨pb, 0, none⟩)] w fun e w' => ∃ q cap L, e = .returned (.slice (some ⟨q, 0, none⟩) L.length cap) ∧ w.heap.size ≤ q ∧ ObsAt w' q L ∧ L.Nodup ∧ (∀ x, x ∈ L ↔ ObOk K E x) ∧ L.length ≤ 64 + E.length ∧ Upd (fun _ => False) w w' := by
  have H := Lib.hid h
  obtain ⟨c, hm, hc⟩ := h.map
  have HM := Lib.hid hm
  have HC := Lib.hid (show ∀ e ∈ E.map entR, e.2.2 < c from fun e he => by
    obtain ⟨x, hx, rfl⟩ := List.mem_map.1 he
    exact hc x hx)
  clear hm hc
  have p1 : w.cell? ⟨pb, 1, none⟩ = some (.slice (some ⟨gb, 0, none⟩) 64 64) := h.pool.cell 1
  clear h
  go_enter Try.func6, Try.ntmps6
  go_wp2_with fail
  go_loopw [3, 12] (fun vv vi wr => Upd (fun _ => False) w wr ∧ ∃ k : Nat, k ≤ 64 ∧ vi = .int .i64 k ∧ ObV wr w.heap.size vv (pgL K k)) (fun _ i _ => 64 - (intOf i).toNat)
  case atStart => exact ⟨Upd.refl _ _, 0, by omega, rfl, ObV.nil _ _⟩
  case round =>
    obtain ⟨hu, k, hk, rfl, hv⟩ := hrel
    have HU := Lib.hid hu
    have hrep := H.out.grow hu (fun _ _ h => h)
    have HV := Lib.hid hv
    rcases Nat.lt_or_ge k 64 with hlt | hge
    · obtain ⟨c0, c1⟩ := page_cell hrep.page hlt
      have hgl := hrep.page.lt
      by_cases hK : K k = 0
      · have e : pgL K (k + 1) = pgL K k := by show (if K k = 0 then _ else _) = _; rw [if_pos hK]
        have HE := Lib.hid e
        rw [hK] at c0
        clear hu hrep hv hK e
        go_wp2_with fail
        go_roundw
        case rel => exact ⟨HU.out.alloc _, k + 1, by omega, by go_num, by rw [HE.out]; exact HV.out.kept ((Upd.refl (fun _ => False) _).alloc _) (fun _ _ h => h)⟩
        case measure => simp [intOf]; omega
      · have e : pgL K (k + 1) = pgL K k ++ [(K k, k)] := by show (if K k = 0 then _ else _) = _; rw [if_neg hK]
        have HE := Lib.hid e
        have hnk : numK K k = k := by unfold numK; rw [if_neg hK]
        rw [hnk] at c1
        have hd : ((K k : Int) != 0) = true := by
          have : (K k : Int) ≠ 0 := by omega
          simpa using this
        have hux : Upd (fun _ => False) wr (wr.alloc (.cells #[.int .i64 (K k), .int .i64 k] 28)) := (Upd.refl _ _).alloc _
        have hsz : (wr.alloc (.cells #[.int .i64 (K k), .int .i64 k] 28)).heap.size = wr.heap.size + 1 := by rw [World.alloc]; simp only [Array.size_push]
        obtain ⟨A', n', c', w1, hap, hv1, hu1, _, _⟩ := (hv.kept hux (fun _ _ h => h)).app (K k, k) (by rw [hsz]; have := hu.size; omega) (by have := pgL_len K k; omega)
        rw [hsz] at hap
        have HA := Lib.hid hap
        have HV1 := Lib.hid hv1
        have HU1 := Lib.hid ((hu.trans hux (fun _ _ h => h)).trans hu1 (fun i hi h => by omega))
        obtain ⟨A0, cap0, rfl, _⟩ := hv.shape
        generalize (pgL K k).length = n0 at HA ⊢
        generalize K k = kk at c0 hd HA HV1 HE
        clear hu hrep hv hK e hnk hux hsz hap hv1 hu1
        go_wp2_with (at_builtin; refine Lib.wpList_append_run _ rfl _ _ _ _ rfl _ _ rfl rfl _ _ HA.out ?_)
        go_roundw
        case rel => exact ⟨HU1.out, k + 1, by omega, by go_num, by rw [HE.out]; exact HV1.out⟩
        case measure => simp [intOf]; omega
    · obtain rfl : k = 64 := by omega
      obtain ⟨wo, rfl⟩ : ∃ wo : World, wo = wr := ⟨_, rfl⟩
      have p0 : wo.cell? ⟨pb, 0, none⟩ = some (.map (some mb)) := hrep.pool.cell 0
      have hm := HM.out.upd hu (fun h => h)
      obtain ⟨w2, hrg, hit, hu2, hsz⟩ := run_range_at (P := Try.prog) hm Try.underlying44 HC.out
      have HUO := Lib.hid hu.size
      have HIT := Lib.hid hit
      have HV2 := Lib.hid (hv.kept hu2 (fun _ _ h => h))
      have HUW := Lib.hid (hu.trans hu2 (fun _ _ h => h))
      have hol := World.ownsRow.lt hv
      have HOL := Lib.hid hol
      clear hrep hm hit hu2 hsz hv hu hol
      go_wp2_with fail
      go_loopw [3] (fun vv wr => ∃ vs : List Reg, MapIt wr wo.heap.size mb (E.map entR) c (vs.map entR) ∧ (∀ x ∈ vs, x ∈ E) ∧ ObV wr w.heap.size vv (pgL K 64 ++ vs.map obR) ∧ vv.ownBlock ≠ some wo.heap.size ∧ Upd (fun _ => False) w wr) (fun _ wr => E.length - seenN wr wo.heap.size)
      case atStart => exact ⟨[], HIT.out, fun x hx => (by cases hx), by simpa using HV2.out, fun e => Nat.lt_irrefl _ ((HOL.out _ e).2), HUW.out⟩
      case round =>
        obtain ⟨vs, hit3, hvs, hv, hne, hu⟩ := hrel
        have hm3 := HM.out.upd hu (fun h => h)
        have HIT3 := Lib.hid hit3
        have HVS := Lib.hid hvs
        have HV := Lib.hid hv
        have HNE := Lib.hid hne
        have HU3 := Lib.hid hu
        have hvl : vs.length ≤ E.length := by
          have := nodup_len' hit3.nodup hit3.sub
          simpa using this
        rcases run_next_int (P := Try.prog) hm3 hit3 (by rw [ents_borns]; exact H.out.borns) 0 with ⟨hall, hrun⟩ | ⟨e, he, hnin, w4, hrun, hit4, hu4, hsz4, hent⟩
        · obtain ⟨hnd, hmem⟩ := all_obs H.out hit3.nodup hvs (fun x hx => hall _ (List.mem_map.2 ⟨x, hx, rfl⟩))
          obtain ⟨L, hL⟩ : ∃ L, L = pgL K 64 ++ vs.map obR := ⟨_, rfl⟩
          rw [← hL] at hnd hmem hv
          have hll : L.length ≤ 64 + E.length := by
            have := pgL_len K 64
            rw [hL, List.length_append, List.length_map]
            omega
          have hpos : 0 < L.length := by
            obtain ⟨r, hr, _⟩ := H.out.whole
            exact List.length_pos_of_mem ((hmem (1, r.key)).2 (.inl ⟨rfl, r, hr, rfl⟩))
          have hsm : ∀ x ∈ L, x.1 < 16 ∧ x.2 < 65536 := fun x hx => by
            rcases (hmem x).1 hx with ⟨h1, r, hr, h2⟩ | ⟨h1, h2, h3, _⟩
            · have h5 := (H.out.ok r hr).key
              have h6 := (H.out.ok r hr).ord
              have h7 := (H.out.ok r hr).base_lt
              omega
            · omega
          obtain ⟨q, cap, rfl, hq, hql, hcall⟩ := sort_own hv hpos hsm (by omega)
          have HC2 := Lib.hid hcall
          have HR := Lib.hid (And.intro hnd (And.intro hmem (And.intro hll hq)))
          clear hall hit3 hvs hv hne hu hm3 hvl hnd hmem hL hll hpos hsm hq hql hcall
          go_wp2_with fail
          refine HC2.out.mono ?_
          rintro _ w5 ⟨rfl, L', hp, hl, hat, hu5⟩
          have HP := Lib.hid (And.intro hp (And.intro hl hat))
          have HU5 := Lib.hid hu5
          clear hp hl hat hu5
          go_wp2_with fail
          go_ret
          obtain ⟨hp, hl, hat⟩ := HP.out
          obtain ⟨hnd, hmem, hll, hq⟩ := HR.out
          exact ⟨q, cap, L', by rw [hl]; rfl, hq, hat, hp.nodup_iff.2 hnd, fun x => (hp.mem_iff).trans (hmem x), by omega, HU3.out.trans HU5.out (fun i hi e => by omega)⟩
        · obtain ⟨x, hx, rfl⟩ := List.mem_map.1 he
          have he4 := hent w4 (Upd.refl _ _)
          have hu04 : Upd (fun _ => False) w w4 := hu.trans hu4 (fun i hi e => by have := HUO.out; omega)
          obtain ⟨A', n', c', w5, hap, hv5, hu5, hu5', hown5⟩ := (hv.kept hu4 (fun b hb e => hne (by rw [hb, e]))).app (1, x.key) hu04.size (by
            rw [List.length_append, List.length_map]
            have := pgL_len K 64
            omega)
          have hit5 : (Value.slice A' n' c').ownBlock ≠ some wo.heap.size := fun e => by
            rcases hown5 with h1 | ⟨b, h1, h2⟩
            · exact hne (h1.symm.trans e)
            · have := hit4.lt
              rw [h1] at e
              cases e
              omega
          have hm5 := hit4.upd hu5' (fun e => hne e)
          have HA := Lib.hid hap
          have HV5 := Lib.hid hv5
          have HU5 := Lib.hid (hu04.trans hu5 (fun i hi h => by omega))
          have HM5 := Lib.hid hm5
          have HI5 := Lib.hid hit5
          have HX := Lib.hid hx
          have hlt : seenN wr wo.heap.size < E.length := by
            rw [hit3.seen]
            have := nodup_len' hit4.nodup hit4.sub
            simp at this
            rw [List.length_map]
            omega
          have HLT := Lib.hid (And.intro hlt (show seenN w5 wo.heap.size = seenN wr wo.heap.size + 1 by rw [hm5.seen, hit3.seen]; simp))
          obtain ⟨A0, cap0, rfl, _⟩ := hv.shape
          generalize (pgL K 64 ++ List.map obR vs).length = n0 at HA ⊢
          dsimp only [entR] at hrun he4
          clear hit3 hvs hv hne hu hm3 hvl hit4 hu4 hsz4 hent hu04 hap hv5 hu5 hu5' hown5 hit5 hm5 he hnin hx hlt
          go_wp2_with (at_builtin; refine Lib.wpList_append_run _ rfl _ _ _ _ rfl _ _ rfl rfl _ _ HA.out ?_)
          go_roundw
          case rel =>
            refine ⟨vs ++ [x], by simpa using HM5.out, fun y hy => ?_, by have := HV5.out; simpa [obR] using this, HI5.out, HU5.out⟩
            rcases List.mem_append.1 hy with h1 | h1
            · exact HVS.out y h1
            · rw [List.mem_singleton.1 h1]; exact HX.out
          case measure =>
            have := HLT.out
            omega
end Go.Proofs.Ytjjgdacjfmiamaa
