/- The walk of the law MmuRights. -/
import Derived.Test.YtiknigdjmbdfgaaDoorWalkLaws
import Derived.Test.YtiknigdjmbdfgaaDoorPick
import Derived.Test.YtiknigdjmbdfgaaDoorMemNew
import Derived.Test.YtiknigdjmbdfgaaDoorMemWriteAll
namespace Go.Proofs.YtiknigdjmbdfgaaDoor
open Go.RowKit Go.Lib

set_option maxHeartbeats 400000 in
theorem landed_true (va : Nat) (r : Int × Int) (w : World) (hva : va < 4294967296) (h : Landed 6 va r) :
    Calls Tryd.prog 9 #[.int .i64 r.1, .int .i64 r.2, .int .u32 va] w fun e w' => e = .returned (.bool true) ∧ w = w' := by
  obtain ⟨h1, h2⟩ := h
  obtain ⟨pa, c⟩ := r
  simp only at h1 h2
  by_cases hc : c = -1
  · subst hc
    obtain ⟨q1, q2, q3⟩ := h2 rfl
    have b2 : decide (pa < 24576) = true := decide_eq_true (by omega)
    have b3 : (pa % 4096 == (va : Int) % 4096) = true := by simpa using q3
    have B3 := Lib.hid q3
    clear h1 h2 q3 q2
    go_enter Tryd.func9, Tryd.ntmps9
    go_wp2
    go_ret
    exact ⟨rfl, rfl⟩
  · obtain rfl := h1 hc
    have b : (c != -1) = true := by simpa using hc
    clear h1 h2 hc
    go_enter Tryd.func9, Tryd.ntmps9
    go_wp2
    go_ret
    exact ⟨rfl, rfl⟩

theorem Tabs.below {w wr : World} (h : Tabs w) (hb : Below w.heap.size w wr) : Tabs wr := by
  have k0 := World.block_lt_of_cell? w _ h.f0
  have k1 := World.block_lt_of_cell? w _ h.n0
  exact ⟨(hb.cell (p := ⟨0, 0, none⟩) k0).trans h.f0, (hb.cell (p := ⟨0, 1, none⟩) k0).trans h.f1, (hb.cell (p := ⟨0, 2, none⟩) k0).trans h.f2, (hb.cell (p := ⟨0, 3, none⟩) k0).trans h.f3, (hb.cell (p := ⟨0, 4, none⟩) k0).trans h.f4, (hb.cell (p := ⟨0, 5, none⟩) k0).trans h.f5,
    (hb.cell (p := ⟨1, 0, none⟩) k1).trans h.n0, (hb.cell (p := ⟨1, 1, none⟩) k1).trans h.n1, (hb.cell (p := ⟨1, 2, none⟩) k1).trans h.n2⟩

/-- A memory and the tables. -/
structure MT (mb N : Nat) (F : Nat → Prop) (f : Nat → UInt8) (w : World) : Prop where
  rep : MemRep w mb F N f
  tabs : Tabs w

theorem MT.drewN {mb N : Nat} {F : Nat → Prop} {f : Nat → UInt8} {w : World} (h : MT mb N F f w) (n : Nat) : MT mb N F f (w.drewN n) :=
  ⟨h.rep.upd ((Upd.refl (fun _ => False) w).drewN n) (fun _ _ h => h), ⟨h.tabs.f0, h.tabs.f1, h.tabs.f2, h.tabs.f3, h.tabs.f4, h.tabs.f5, h.tabs.n0, h.tabs.n1, h.tabs.n2⟩⟩

theorem walk_lit (u : Nat) (hu : u < 3) (mb N va : Nat) (root ui a x : Int) (F : Nat → Prop) (f : Nat → UInt8) (w : World) (hui : ui = (u : Int)) (he : walkF f N va u root = (a, x)) (hr : MT mb N F f w) (hN : N ≤ 256) (hva : va < 4294967296) :
    Calls Tryd.prog 8 #[.pointer (some ⟨mb, 0, none⟩), .int .i64 root, .int .u32 va, .int .i64 ui] w fun e w' => e = .returned (.tuple #[.int .i64 a, .int .i64 x]) ∧ (∀ B, Below B w w') ∧ MT mb N F f w' := by
  subst hui
  have h := walk_any mb N va u root F f w hr.rep hN hva hr.tabs hu
  rw [he] at h
  refine h.mono ?_
  rintro e w' ⟨rfl, n, rfl⟩
  exact ⟨rfl, fun B => ⟨rfl, rfl, rfl, Nat.le_refl _, fun _ _ => rfl⟩, hr.drewN n⟩

/-- A memory of N pages at mb among the call's own blocks. -/
structure MemOwn (B mb N : Nat) (w wr : World) : Prop where
  rep : ∃ (F : Nat → Prop) (f : Nat → UInt8), MemRep wr mb F N f ∧ (∀ i, F i → B ≤ i ∧ i < wr.heap.size)
  below : Below B w wr

theorem MemOwn.drewN {B mb N : Nat} {w wr : World} (h : MemOwn B mb N w wr) (n : Nat) : MemOwn B mb N w (wr.drewN n) := by
  obtain ⟨⟨F, f, h1, h2⟩, h3⟩ := h
  exact ⟨⟨F, f, h1.upd ((Upd.refl (fun _ => False) wr).drewN n) (fun _ _ h => h), h2⟩, ⟨h3.os, h3.tape, h3.output, h3.size, h3.block⟩⟩

theorem MemOwn.le {B mb N : Nat} {w wr : World} (h : MemOwn B mb N w wr) : B ≤ wr.heap.size := by
  obtain ⟨⟨F, f, ⟨pb, ptrs, a1, a2, a3, a4, _⟩, h2⟩, _⟩ := h
  have := h2 _ a4
  omega

/-- Whatever is written wherever: it stays such a memory. -/
theorem write_own (B mb N : Nat) (a : Int) (s : ByteArray) (w wr : World) (h : MemOwn B mb N w wr) (hN : N ≤ 256) (hs2 : s.size ≤ 140737488351232) :
    Calls Tryd.prog 6 #[.pointer (some ⟨mb, 0, none⟩), .int .i64 a, .string s] wr fun e w' => ∃ c, e = .returned (.int .i64 c) ∧ MemOwn B mb N w w' := by
  have hle := h.le
  obtain ⟨⟨F, f, h1, h2⟩, h3⟩ := h
  cases hin : inB N a s.size with
  | true =>
    obtain ⟨y, rfl⟩ := Int.eq_ofNat_of_zero_le (inB_yes hin).2.1
    refine (write_ok mb N y s F f wr h1 (fun i hi => (h2 i hi).2) hN hs2 hin).mono ?_
    rintro e w' ⟨rfl, r1, r2⟩
    refine ⟨0, rfl, ⟨_, _, r1, ?_⟩, h3.trans (r2.below' hle (fun i hi hf => by have := (h2 i hf).1; omega))⟩
    rintro i (hi | ⟨hi1, hi2⟩)
    · exact ⟨(h2 i hi).1, Nat.lt_of_lt_of_le (h2 i hi).2 r2.size⟩
    · exact ⟨by omega, hi2⟩
  | false =>
    have hM : ∃ pb, Blk wr mb 50 #[.slice (some ⟨pb, 0, none⟩) N N] := by
      obtain ⟨pb, ptrs, a1, _⟩ := h1
      exact ⟨pb, a1⟩
    obtain ⟨pb, hM⟩ := hM
    refine (write_no mb pb N a s wr hM hN hs2 hin).mono ?_
    rintro e w' ⟨rfl, hb⟩
    exact ⟨1, rfl, ⟨F, f, h1.upd (Upd.of_below hb (fun _ => False)) (fun _ _ h => h), fun i hi => ⟨(h2 i hi).1, Nat.lt_of_lt_of_le (h2 i hi).2 hb.size⟩⟩, h3.trans (hb.mono hle)⟩

set_option maxRecDepth 100000 in
set_option maxHeartbeats 1000000 in
theorem mmuRights_walk (A : Option Addr) (b off len cap : Nat) (hA : 0 < len → A = some ⟨b, off, none⟩) (ats : Nat → Int) (ss : Nat → ByteArray) (root : Int) (va : Nat) (w : World) (hva : va < 4294967296) (ht : Tabs w)
    (hl : ∀ i, i < len → w.cell? ⟨b, off + i * 2, none⟩ = some (.int .i64 (ats i)) ∧ w.cell? ⟨b, off + i * 2 + 1, none⟩ = some (.string (ss i)))
    (hat : ∀ i, i < len → -9223372036854775808 ≤ ats i ∧ ats i ≤ 9223372036854775807) (hss : ∀ i, i < len → (ss i).size ≤ 140737488351232)
    (hlen : len ≤ 9223372036854775807) :
    Calls Tryd.prog 3 #[.slice A len cap, .int .i64 root, .int .u32 va] w fun e w' => e = .returned (.bool true) ∧ Below w.heap.size w w' := by
  have hb : 0 < len → b < w.heap.size := fun h => World.block_lt_of_cell? w _ (hl 0 h).1
  have HA := Lib.hid hA
  clear hA
  have HL := Lib.hid hl
  have HAT := Lib.hid hat
  have HSS := Lib.hid hss
  clear hl hat hss
  have HT := Lib.hid ht
  have HV := Lib.hid hva
  clear ht hva
  have hnew := Lib.hid (new_ok 6 w (by omega) (by omega))
  go_enter Tryd.func3, Tryd.ntmps3
  go_wp2_with fail
  refine (hnew.out).mono ?_
  rintro e w1 ⟨rfl, hr, hbl, hsz⟩
  have I0 : Hid (MemOwn w.heap.size (w.heap.size + 1) 6 w w1) := Lib.hid ⟨⟨_, _, hr, fun i hi => ⟨hi.1, by omega⟩⟩, hbl⟩
  clear hr hbl hnew
  go_wp2_with fail
  go_loopw [9] (fun vi wr => ∃ k : Nat, k ≤ len ∧ k ≤ 262144 ∧ vi = .int .i64 k ∧ MemOwn w.heap.size (w.heap.size + 1) 6 w wr) (fun i _ => len - (intOf i).toNat)
  case atStart => exact ⟨0, by omega, by omega, rfl, I0.out⟩
  case round =>
    obtain ⟨k, hk, hk2, rfl, hinv⟩ := hrel
    clear I0
    have HK2 := Lib.hid hk2
    clear hk2
    by_cases hlt : k < len
    · by_cases hlt2 : k < 262144
      · have hAe := HA.out (by omega)
        subst hAe
        have hd2 : decide ((k : Int) < 262144) = true := decide_eq_true (by omega)
        have HLT2 := Lib.hid hlt2
        clear hlt2
        obtain ⟨hc1, hc2⟩ := HL.out k hlt
        have hbk := hb (by omega)
        have hr1 : wr.cell? ⟨b, off + k * 2, none⟩ = some (.int .i64 (ats k)) := (hinv.below.cell (p := ⟨b, off + k * 2, none⟩) hbk).trans hc1
        have hr2 : wr.cell? ⟨b, off + k * 2 + 1, none⟩ = some (.string (ss k)) := (hinv.below.cell (p := ⟨b, off + k * 2 + 1, none⟩) hbk).trans hc2
        have hxb := HAT.out k hlt
        have hs2 := HSS.out k hlt
        clear hc1 hc2
        generalize ats k = x at hr1 hxb
        generalize ss k = s at hr2 hs2
        have HXB := Lib.hid hxb
        have HI := Lib.hid (hinv.drewN 1)
        clear hinv hxb
        go_wp2_with fail
        go_region_with (first | (go_at_call 7; refine (pick_any x 24576 _ HXB.out (by omega)).mono ?_; rintro e w1 ⟨rfl, rfl⟩) | (go_at_call 6; refine (write_own w.heap.size _ 6 _ s w _ HI.out (by omega) hs2).mono ?_; rintro e w2 ⟨c, rfl, hi2⟩; have HI2 := Lib.hid hi2; clear hi2))
        all_goals go_wp2_with fail
        all_goals go_roundw
        all_goals first
          | exact ⟨k + 1, by omega, by have := HLT2.out; omega, by go_num, HI2.out⟩
          | (simp [intOf]; omega)
      · have hd2 : decide ((k : Int) < 262144) = false := decide_eq_false (by omega)
        clear hlt2
        obtain ⟨⟨F, f, hrep, -⟩, hbel⟩ := hinv
        have HM : Hid (MT (w.heap.size + 1) 6 F f wr) := Lib.hid ⟨hrep, HT.out.below hbel⟩
        have HB := Lib.hid hbel
        clear hrep hbel
        obtain ⟨⟨a, x⟩, e2⟩ : ∃ r, walkF f 6 va 2 root = r := ⟨_, rfl⟩
        obtain ⟨⟨b2, y⟩, e1⟩ : ∃ r, walkF f 6 va 1 root = r := ⟨_, rfl⟩
        obtain ⟨⟨c, z⟩, e0⟩ : ∃ r, walkF f 6 va 0 root = r := ⟨_, rfl⟩
        have a21 : x = -1 → y = -1 ∧ a = b2 := by
          have h := (walk_agree f 6 va 2 1 root).2 need_store_load
          rw [e2, e1] at h
          exact h
        have a20 : x = -1 → z = -1 → a = c := by
          have h := (walk_agree f 6 va 2 0 root).1
          rw [e2, e0] at h
          exact h
        have L2 : Hid (Landed 6 va (a, x)) := Lib.hid (e2 ▸ walk_landed f 6 va 2 root)
        have L1 : Hid (Landed 6 va (b2, y)) := Lib.hid (e1 ▸ walk_landed f 6 va 1 root)
        have L0 : Hid (Landed 6 va (c, z)) := Lib.hid (e0 ▸ walk_landed f 6 va 0 root)
        have HE2 := Lib.hid e2
        have HE1 := Lib.hid e1
        have HE0 := Lib.hid e0
        clear e2 e1 e0
        go_wp2_with fail
        refine (walk_lit 2 (by decide) (w.heap.size + 1) 6 va root 2 a x F f _ (show (2 : Int) = ((2 : Nat) : Int) from rfl) HE2.out (by first | exact HM.out | exact HM.out.drewN _) (by decide) HV.out).mono ?_
        rintro e w1 ⟨rfl, hbd, hm⟩
        replace HM := Lib.hid hm
        replace HB := Lib.hid (HB.out.trans (hbd _))
        clear hm hbd
        go_wp2_with fail
        refine (walk_lit 1 (by decide) (w.heap.size + 1) 6 va root 1 b2 y F f _ (show (1 : Int) = ((1 : Nat) : Int) from rfl) HE1.out (by first | exact HM.out | exact HM.out.drewN _) (by decide) HV.out).mono ?_
        rintro e w1 ⟨rfl, hbd, hm⟩
        replace HM := Lib.hid hm
        replace HB := Lib.hid (HB.out.trans (hbd _))
        clear hm hbd
        go_wp2_with fail
        refine (walk_lit 0 (by decide) (w.heap.size + 1) 6 va root 0 c z F f _ (show (0 : Int) = ((0 : Nat) : Int) from rfl) HE0.out (by first | exact HM.out | exact HM.out.drewN _) (by decide) HV.out).mono ?_
        rintro e w1 ⟨rfl, hbd, hm⟩
        replace HM := Lib.hid hm
        replace HB := Lib.hid (HB.out.trans (hbd _))
        clear hm hbd
        clear HE2 HE1 HE0
        have HY := Lib.hid a21
        have HZ := Lib.hid a20
        clear a21 a20
        by_cases hx : x = -1
        · obtain ⟨rfl, rfl⟩ := HY.out hx
          subst hx
          by_cases hz : z = -1
          · obtain rfl := HZ.out rfl hz
            subst hz
            clear HY HZ
            go_wp2_with (go_at_call 9; refine (landed_true va (_, _) _ HV.out (by first | exact L2.out | exact L1.out | exact L0.out)).mono ?_; rintro e w1 ⟨rfl, rfl⟩)
            go_ret
            exact ⟨rfl, HB.out⟩
          · have hz2 : (z == -1) = false := by simpa using hz
            clear HY HZ hz
            go_wp2_with (go_at_call 9; refine (landed_true va (_, _) _ HV.out (by first | exact L2.out | exact L1.out | exact L0.out)).mono ?_; rintro e w1 ⟨rfl, rfl⟩)
            go_ret
            exact ⟨rfl, HB.out⟩
        · have hx2 : (x == -1) = false := by simpa using hx
          clear HY HZ hx
          go_wp2_with (go_at_call 9; refine (landed_true va (_, _) _ HV.out (by first | exact L2.out | exact L1.out | exact L0.out)).mono ?_; rintro e w1 ⟨rfl, rfl⟩)
          go_ret
          exact ⟨rfl, HB.out⟩
    · have hke : k = len := by omega
      subst hke
      clear hlt
      · skip
        obtain ⟨⟨F, f, hrep, -⟩, hbel⟩ := hinv
        have HM : Hid (MT (w.heap.size + 1) 6 F f wr) := Lib.hid ⟨hrep, HT.out.below hbel⟩
        have HB := Lib.hid hbel
        clear hrep hbel
        obtain ⟨⟨a, x⟩, e2⟩ : ∃ r, walkF f 6 va 2 root = r := ⟨_, rfl⟩
        obtain ⟨⟨b2, y⟩, e1⟩ : ∃ r, walkF f 6 va 1 root = r := ⟨_, rfl⟩
        obtain ⟨⟨c, z⟩, e0⟩ : ∃ r, walkF f 6 va 0 root = r := ⟨_, rfl⟩
        have a21 : x = -1 → y = -1 ∧ a = b2 := by
          have h := (walk_agree f 6 va 2 1 root).2 need_store_load
          rw [e2, e1] at h
          exact h
        have a20 : x = -1 → z = -1 → a = c := by
          have h := (walk_agree f 6 va 2 0 root).1
          rw [e2, e0] at h
          exact h
        have L2 : Hid (Landed 6 va (a, x)) := Lib.hid (e2 ▸ walk_landed f 6 va 2 root)
        have L1 : Hid (Landed 6 va (b2, y)) := Lib.hid (e1 ▸ walk_landed f 6 va 1 root)
        have L0 : Hid (Landed 6 va (c, z)) := Lib.hid (e0 ▸ walk_landed f 6 va 0 root)
        have HE2 := Lib.hid e2
        have HE1 := Lib.hid e1
        have HE0 := Lib.hid e0
        clear e2 e1 e0
        go_wp2_with fail
        refine (walk_lit 2 (by decide) (w.heap.size + 1) 6 va root 2 a x F f _ (show (2 : Int) = ((2 : Nat) : Int) from rfl) HE2.out (by first | exact HM.out | exact HM.out.drewN _) (by decide) HV.out).mono ?_
        rintro e w1 ⟨rfl, hbd, hm⟩
        replace HM := Lib.hid hm
        replace HB := Lib.hid (HB.out.trans (hbd _))
        clear hm hbd
        go_wp2_with fail
        refine (walk_lit 1 (by decide) (w.heap.size + 1) 6 va root 1 b2 y F f _ (show (1 : Int) = ((1 : Nat) : Int) from rfl) HE1.out (by first | exact HM.out | exact HM.out.drewN _) (by decide) HV.out).mono ?_
        rintro e w1 ⟨rfl, hbd, hm⟩
        replace HM := Lib.hid hm
        replace HB := Lib.hid (HB.out.trans (hbd _))
        clear hm hbd
        go_wp2_with fail
        refine (walk_lit 0 (by decide) (w.heap.size + 1) 6 va root 0 c z F f _ (show (0 : Int) = ((0 : Nat) : Int) from rfl) HE0.out (by first | exact HM.out | exact HM.out.drewN _) (by decide) HV.out).mono ?_
        rintro e w1 ⟨rfl, hbd, hm⟩
        replace HM := Lib.hid hm
        replace HB := Lib.hid (HB.out.trans (hbd _))
        clear hm hbd
        clear HE2 HE1 HE0
        have HY := Lib.hid a21
        have HZ := Lib.hid a20
        clear a21 a20
        by_cases hx : x = -1
        · obtain ⟨rfl, rfl⟩ := HY.out hx
          subst hx
          by_cases hz : z = -1
          · obtain rfl := HZ.out rfl hz
            subst hz
            clear HY HZ
            go_wp2_with (go_at_call 9; refine (landed_true va (_, _) _ HV.out (by first | exact L2.out | exact L1.out | exact L0.out)).mono ?_; rintro e w1 ⟨rfl, rfl⟩)
            go_ret
            exact ⟨rfl, HB.out⟩
          · have hz2 : (z == -1) = false := by simpa using hz
            clear HY HZ hz
            go_wp2_with (go_at_call 9; refine (landed_true va (_, _) _ HV.out (by first | exact L2.out | exact L1.out | exact L0.out)).mono ?_; rintro e w1 ⟨rfl, rfl⟩)
            go_ret
            exact ⟨rfl, HB.out⟩
        · have hx2 : (x == -1) = false := by simpa using hx
          clear HY HZ hx
          go_wp2_with (go_at_call 9; refine (landed_true va (_, _) _ HV.out (by first | exact L2.out | exact L1.out | exact L0.out)).mono ?_; rintro e w1 ⟨rfl, rfl⟩)
          go_ret
          exact ⟨rfl, HB.out⟩
end Go.Proofs.YtiknigdjmbdfgaaDoor
