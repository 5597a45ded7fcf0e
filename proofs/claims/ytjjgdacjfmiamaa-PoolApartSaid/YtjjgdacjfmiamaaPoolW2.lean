/- pool: clear: does nothing lie in an untyped? -/
import Derived.Test.YtjjgdacjfmiamaaPoolW1
import Derived.Maps.RangeWalk
namespace Go.Proofs.Ytjjgdacjfmiamaa
open Go.RowKit Go.Lib

/-- Does nothing lie in r? -/
def clearB (K : Nat → Nat) (E : List Reg) (r : Reg) : Bool := (List.range (2 ^ r.ord)).all (fun j => K (r.base + j) == 0) && !(E.any (inR r))

theorem clearB_iff {K : Nat → Nat} {E : List Reg} {r : Reg} : clearB K E r = true ↔ (∀ j, j < 2 ^ r.ord → K (r.base + j) = 0) ∧ ∀ x ∈ E, inR r x = false := by
  unfold clearB
  simp only [Bool.and_eq_true, List.all_eq_true, List.mem_range, beq_iff_eq, Bool.not_eq_true', List.any_eq_false, Bool.not_eq_true]

/-- How many have come. -/
def seenN (w : World) (r : Nat) : Nat := match w.heap[r]? with | some (.mapIter _ _ seen _) => seen.size | _ => 0
theorem MapIt.seen {w : World} {r b : Nat} {l vis : List Ent} {c : Nat} (h : MapIt w r b l c vis) : seenN w r = vis.length := by
  obtain ⟨⟨since, c0, hr, _⟩, _, _⟩ := h
  unfold seenN
  rw [hr]
  simp

theorem nodup_len' {vis l : List Ent} (hn : vis.Nodup) (hs : ∀ e ∈ vis, e ∈ l) : vis.length ≤ l.length :=
  @nodup_len _ (fun _ _ => Classical.propDecidable _) _ _ hn hs

theorem page_cell {w : World} {gb : Nat} {K : Nat → Nat} (h : Blk w gb 28 (pageCells K)) {i : Nat} (hi : i < 64) : w.cell? ⟨gb, i * 2, none⟩ = some (.int .i64 (K i)) ∧ w.cell? ⟨gb, i * 2 + 1, none⟩ = some (.int .i64 (numK K i)) := by
  constructor
  · rw [h.cell, pageCells_get K (by omega)]
    unfold pageCell
    rw [if_pos (by omega), show i * 2 / 2 = i by omega]
  · rw [h.cell, pageCells_get K (by omega)]
    unfold pageCell
    rw [if_neg (by omega), show (i * 2 + 1) / 2 = i by omega]

set_option maxRecDepth 100000 in
set_option maxHeartbeats 1600000 in
theorem clear_ok {w : World} {base pb mb gb : Nat} {K : Nat → Nat} {E : List Reg} (h : PRep w base pb mb gb K E) {r : Reg} (hr : r ∈ E) :
    Calls Try.prog 16 #[.pointer (some ⟨pb, 0, none⟩), .pointer (some ⟨r.blk, 0, none⟩)] w fun e w' => e = .returned (.bool (clearB K E r)) ∧ Upd (fun _ => False) w w' := by
  have H := Lib.hid h
  have HR := Lib.hid hr
  have p0 : ∀ n, (w.drewN n).cell? ⟨pb, 0, none⟩ = some (.map (some mb)) := fun n => (h.pool.drewN n).cell 0
  have p1 : ∀ n, (w.drewN n).cell? ⟨pb, 1, none⟩ = some (.slice (some ⟨gb, 0, none⟩) 64 64) := fun n => (h.pool.drewN n).cell 1
  have r0 : ∀ n, (w.drewN n).cell? ⟨r.blk, 0, none⟩ = some (.int .i64 r.base) := fun n => ((h.reg r hr).drewN n).cell 0
  have r1 : ∀ n, (w.drewN n).cell? ⟨r.blk, 1, none⟩ = some (.int .i64 r.ord) := fun n => ((h.reg r hr).drewN n).cell 1
  have ho := (h.ok r hr).ord
  have ht := (h.ok r hr).top
  obtain ⟨n, hn⟩ : ∃ n, n = 2 ^ r.ord := ⟨_, rfl⟩
  have hp : (2 : Int) ^ r.ord = (n : Int) := by rw [hn]; norm_cast
  rw [← hn] at ht
  have hn1 : 0 < n := by rw [hn]; exact Nat.two_pow_pos _
  have HN := Lib.hid hn
  obtain ⟨rB, hrB⟩ : ∃ rB, rB = r.base := ⟨_, rfl⟩
  obtain ⟨rO, hrO⟩ : ∃ rO, rO = r.ord := ⟨_, rfl⟩
  rw [← hrB] at r0 ht
  rw [← hrO] at r1 ho hp
  have HRB := Lib.hid hrB
  have HRO := Lib.hid hrO
  have h64 : ¬ 64 = rB := by omega
  clear h hr hn hrB hrO
  go_enter Try.func16, Try.ntmps16
  go_wp2_with fail
  go_quiet (fail)
  clear r0 r1 p1
  go_wp2_with fail
  rw [Nat.add_sub_cancel_left]
  obtain ⟨w1, hw1⟩ : ∃ w1 : World, w1 = w.drewN nq := ⟨_, rfl⟩
  have HU1 := Lib.hid (show Upd (fun _ => False) w w1 from by rw [hw1]; exact (Upd.refl _ _).drewN _)
  rw [← hw1]
  clear hw1 p0
  go_loopw [29] (fun vi wr => Upd (fun _ => False) w wr ∧ ∃ k : Nat, k ≤ n ∧ vi = .int .i64 k ∧ ∀ j, j < k → K (rB + j) = 0) (fun i _ => n - (intOf i).toNat)
  case atStart => exact ⟨HU1.out, 0, by omega, rfl, fun j hj => by omega⟩
  case round =>
    obtain ⟨hu, k, hk, rfl, hz⟩ := hrel
    have HU := Lib.hid hu
    have HZ := Lib.hid hz
    have hrep := H.out.grow hu (fun _ _ h => h)
    clear hu hz
    rcases Nat.lt_or_ge k n with hlt | hge
    · have c := page_cell hrep.page (i := rB + k) (by omega)
      rw [Nat.add_mul] at c
      obtain ⟨c0, c1⟩ := c
      clear hrep
      by_cases hK : K (rB + k) = 0
      · have hd : ((K (rB + k) : Int) != 0) = false := by rw [hK]; rfl
        have HK := Lib.hid hK
        generalize K (rB + k) = kk at c0 hd
        clear hK
        go_wp2_with fail
        go_roundw
        case rel =>
          refine ⟨(HU.out.alloc _), k + 1, by omega, by go_num, fun j hj => ?_⟩
          rcases Nat.lt_or_ge j k with h1 | h1
          · exact HZ.out j h1
          · obtain rfl : j = k := by omega
            exact HK.out
        case measure => simp [intOf]; omega
      · have hd : ((K (rB + k) : Int) != 0) = true := by
          have : (K (rB + k) : Int) ≠ 0 := by omega
          simpa using this
        have HK := Lib.hid hK
        generalize K (rB + k) = kk at c0 hd
        clear hK
        go_wp2_with fail
        go_ret
        have hcl : clearB K E r = false := by
          cases hq : clearB K E r with
          | false => rfl
          | true => exact absurd (by rw [HRB.out]; exact (clearB_iff.1 hq).1 k (by rw [← HN.out]; exact hlt)) HK.out
        exact ⟨by rw [hcl]; rfl, HU.out.alloc _⟩
    · obtain rfl : n = k := by omega
      obtain ⟨wo, rfl⟩ : ∃ wo : World, wo = wr := ⟨_, rfl⟩
      have p0 : wo.cell? ⟨pb, 0, none⟩ = some (.map (some mb)) := hrep.pool.cell 0
      obtain ⟨c, hm, hc⟩ := hrep.map
      obtain ⟨w2, hrg, hit, hu2, hsz⟩ := run_range_at (P := Try.prog) hm Try.underlying44 (fun e he => by
        obtain ⟨x, hx, rfl⟩ := List.mem_map.1 he
        exact hc x hx)
      have HM := Lib.hid hm
      have HIT := Lib.hid hit
      have HU2 := Lib.hid (HU.out.trans hu2 (fun _ _ h => h))
      have HUW := Lib.hid hu2
      clear hrep hm hc hit hu2 hsz
      go_wp2_with fail
      go_loopw [] (fun wr => Upd (fun i => i = wo.heap.size) w2 wr ∧ ∃ vis, MapIt wr wo.heap.size mb (E.map entR) c vis ∧ ∀ x ∈ E, entR x ∈ vis → inR r x = false) (fun wr => E.length - seenN wr wo.heap.size)
      case atStart => exact ⟨Upd.refl _ _, [], HIT.out, fun x hx hv => by cases hv⟩
      case round =>
        obtain ⟨hu3, vis, hit3, hvis⟩ := hrel
        have hu03 : Upd (fun i => i = wo.heap.size) wo wr := (HUW.out.mono (fun _ _ h => h.elim)).trans hu3 (fun _ _ h => h)
        have hu0 : Upd (fun _ => False) w wr := HU.out.trans hu03 (fun i hi e => by have := HU.out.size; omega)
        have hm3 : MapAt wr mb (E.map entR) c := HM.out.upd hu03 (fun e => by have := HM.out.lt; omega)
        have HU0 := Lib.hid hu0
        have HU3 := Lib.hid hu3
        have HIT3 := Lib.hid hit3
        have HV := Lib.hid hvis
        rcases run_next_int (P := Try.prog) hm3 hit3 (by rw [ents_borns]; exact H.out.borns) 0 with ⟨hall, hrun⟩ | ⟨e, he, hne, w4, hrun, hit4, hu4, hsz4, hent⟩
        · have HA := Lib.hid hall
          clear hu3 hit3 hvis hu03 hu0 hm3 hall
          go_wp2_with fail
          go_ret
          have hcl : clearB K E r = true := clearB_iff.2 ⟨fun j hj => by rw [← HRB.out]; exact HZ.out j (by rw [HN.out]; exact hj), fun x hx => HV.out x hx (HA.out _ (List.mem_map.2 ⟨x, hx, rfl⟩))⟩
          exact ⟨by rw [hcl]; rfl, HU0.out⟩
        · obtain ⟨x, hx, rfl⟩ := List.mem_map.1 he
          have he4 := hent w4 (Upd.refl _ _)
          have hu04 : Upd (fun _ => False) w w4 := hu0.trans hu4 (fun i hi e => by have := HU.out.size; omega)
          have HX := Lib.hid hx
          have HW := Lib.hid (within_ok (H.out.grow hu04 (fun _ _ h => h)) HR.out hx)
          have HIT4 := Lib.hid hit4
          have HU4 := Lib.hid hu4
          have HU04 := Lib.hid hu04
          have hlt : seenN wr wo.heap.size < E.length := by
            rw [hit3.seen]
            have : (vis ++ [entR x]).length ≤ (E.map entR).length := by
              have hn4 := hit4.nodup
              have hs4 := hit4.sub
              exact nodup_len' hn4 hs4
            simp at this
            omega
          have hs4 : seenN w4 wo.heap.size = seenN wr wo.heap.size + 1 := by rw [hit4.seen, hit3.seen]; simp
          have HLT := Lib.hid (And.intro hlt hs4)
          clear hu3 hit3 hvis hu03 hu0 hm3 hit4 hu4 hsz4 hent hu04 he hx hne hlt hs4
          cases hin : inR r x with
          | true =>
            have HIN := Lib.hid hin
            rw [hin] at HW
            clear hin
            go_wp2_with fail
            refine HW.out.mono ?_
            rintro _ w5 ⟨rfl, hu5⟩
            have HU5 := Lib.hid hu5
            clear hu5
            go_wp2_with fail
            go_ret
            have hcl : clearB K E r = false := by
              cases hq : clearB K E r with
              | false => rfl
              | true => exact absurd ((clearB_iff.1 hq).2 x HX.out) (by rw [HIN.out]; decide)
            exact ⟨by rw [hcl]; rfl, HU04.out.trans HU5.out (fun _ _ h => h)⟩
          | false =>
            have HIN := Lib.hid hin
            rw [hin] at HW
            clear hin
            go_wp2_with fail
            refine HW.out.mono ?_
            rintro _ w5 ⟨rfl, hu5⟩
            have HU5 := Lib.hid hu5
            clear hu5
            go_wp2_with fail
            go_roundw
            case rel =>
              refine ⟨(HU3.out.trans HU4.out (fun _ _ h => h)).trans HU5.out (fun _ _ h => h.elim), vis ++ [entR x], HIT4.out.upd HU5.out (fun h => h), fun y hy hyv => ?_⟩
              rcases List.mem_append.1 hyv with h1 | h1
              · exact HV.out y hy h1
              · have : y.key = x.key := by
                  have := congrArg (fun e : Ent => e.1) (List.mem_singleton.1 h1)
                  simp only [entR] at this
                  omega
                rw [mem_of_key H.out hy HX.out this]
                exact HIN.out
            case measure =>
              have h5 : seenN w5 wo.heap.size = seenN w4 wo.heap.size := by rw [HIT4.out.seen, (HIT4.out.upd HU5.out (fun h => h)).seen]
              have := HLT.out
              omega
end Go.Proofs.Ytjjgdacjfmiamaa
