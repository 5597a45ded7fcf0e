/- laid: a memory with a root, a table and entries, and which rights each page has. -/
import Derived.Test.YtiknigdjmbdfgaaDoorVspPlain
import Derived.Test.YtiknigdjmbdfgaaDoorPick
import Derived.Test.YtiknigdjmbdfgaaDoorMemNew
import Derived.Laws.Rows
import Derived.Laws.Tables
import Derived.Deep.MidRow
import Derived.Deep.RegionHeld3
namespace Go.Proofs.YtiknigdjmbdfgaaDoor
open Go.RowKit Go.Lib

/-- The cells of the twelve records: anything, the frame, the rights. -/
structure HaveC (cs : Array Value) (hF hR : Nat → Nat) : Prop where
  size : cs.size = 36
  va : ∀ v, v < 12 → ∃ z : Int, cs[v * 3]? = some (.int .i64 z)
  frame : ∀ v, v < 12 → cs[v * 3 + 1]? = some (.int .i64 (hF v))
  rights : ∀ v, v < 12 → cs[v * 3 + 2]? = some (.int .i64 (hR v))

def zeros36 : Array Value := Array.replicate 36 (.int .i64 0)
theorem HaveC.zero : HaveC zeros36 (fun _ => 0) (fun _ => 0) := by
  have e : ∀ i, i < 36 → zeros36[i]? = some (.int .i64 0) := fun i hi => by unfold zeros36; rw [Array.getElem?_replicate, if_pos hi]
  exact ⟨rfl, fun v hv => ⟨0, e _ (by omega)⟩, fun v hv => e _ (by omega), fun v hv => e _ (by omega)⟩

theorem HaveC.put {cs : Array Value} {hF hR : Nat → Nat} (h : HaveC cs hF hR) (v p r : Nat) (z pz rz : Int) (hv : v < 12) (e1 : pz = (p : Int)) (e2 : rz = (r : Int)) :
    HaveC (((cs.setIfInBounds (v * 3) (.int .i64 z)).setIfInBounds (v * 3 + 1) (.int .i64 pz)).setIfInBounds (v * 3 + 2) (.int .i64 rz)) (put hF v p) (put hR v r) := by
  subst e1 e2
  have hs := h.size
  refine ⟨by simpa using hs, fun j hj => ?_, fun j hj => ?_, fun j hj => ?_⟩
  · rw [set_other _ _ _ _ (by omega), set_other _ _ _ _ (by omega)]
    by_cases e : j = v
    · subst e
      exact ⟨z, set_self _ _ _ (by omega)⟩
    · obtain ⟨z', hz⟩ := h.va j hj
      exact ⟨z', by rw [set_other _ _ _ _ (by omega)]; exact hz⟩
  · rw [set_other _ _ _ _ (by omega)]
    unfold Go.Proofs.YtiknigdjmbdfgaaDoor.put
    by_cases e : j = v
    · subst e
      rw [if_pos rfl]
      exact set_self _ _ _ (by simp; omega)
    · rw [if_neg e, set_other _ _ _ _ (by omega), set_other _ _ _ _ (by omega)]
      exact h.frame j hj
  · unfold Go.Proofs.YtiknigdjmbdfgaaDoor.put
    by_cases e : j = v
    · subst e
      rw [if_pos rfl]
      exact set_self _ _ _ (by simp; omega)
    · rw [if_neg e, set_other _ _ _ _ (by omega), set_other _ _ _ _ (by omega), set_other _ _ _ _ (by omega)]
      exact h.rights j hj

theorem HaveC.one {cs : Array Value} {hF hR : Nat → Nat} (h : HaveC cs hF hR) : ∀ v ∈ cs, v.oneCell' = true := by
  intro v hv
  obtain ⟨i, hi, rfl⟩ := Array.mem_iff_getElem.1 hv
  have hs := h.size
  have hi2 : cs[i]? = some cs[i] := Array.getElem?_eq_getElem hi
  have hz : ∃ z : Int, cs[i]? = some (.int .i64 z) := by
    rcases (by omega : i = i / 3 * 3 ∨ i = i / 3 * 3 + 1 ∨ i = i / 3 * 3 + 2) with e | e | e
    · rw [e]; exact h.va (i / 3) (by omega)
    · rw [e]; exact ⟨_, h.frame (i / 3) (by omega)⟩
    · rw [e]; exact ⟨_, h.rights (i / 3) (by omega)⟩
  obtain ⟨z, hz⟩ := hz
  rw [hi2] at hz
  rw [Option.some.inj hz]
  rfl

/-- In laid: the memory, the result's cell, the records' block, among the call's own blocks. -/
structure MS (w : World) (rb hb mb T : Nat) (hF hR : Nat → Nat) (cs : Array Value) (wr : World) : Prop where
  ex : ∃ (F : Nat → Prop) (rs : Array Value), RepW wr mb F 12 (gOf T hF hR) ∧ (∀ i, F i → w.heap.size ≤ i ∧ i < wr.heap.size) ∧ ¬ F hb ∧ ¬ F rb ∧ Blk wr rb 39 rs ∧ rs.size = 36
  blk : Blk wr hb 39 cs
  below : Below w.heap.size w wr
  hbB : w.heap.size ≤ hb
  rbB : w.heap.size ≤ rb
  ne : rb ≠ hb

section
variable {w wr : World} {rb hb mb T : Nat} {hF hR : Nat → Nat} {cs : Array Value}

theorem MS.step {w' : World} (h : MS w rb hb mb T hF hR cs wr) (hu : Upd (fun _ => False) wr w') : MS w rb hb mb T hF hR cs w' := by
  obtain ⟨F, rs, h1, h2, h3, h4, h5, h6⟩ := h.ex
  have hle : w.heap.size ≤ wr.heap.size := h.below.size
  exact ⟨⟨F, rs, h1.upd hu (fun _ _ h => h), fun i hi => ⟨(h2 i hi).1, Nat.lt_of_lt_of_le (h2 i hi).2 hu.size⟩, h3, h4, h5.upd hu (fun h => h), h6⟩, h.blk.upd hu (fun h => h), h.below.trans (hu.below' hle (fun _ _ h => h)), h.hbB, h.rbB, h.ne⟩

theorem MS.set (h : MS w rb hb mb T hF hR cs wr) (i : Nat) (u : Value) : MS w rb hb mb T hF hR (cs.setIfInBounds i u) (wr.setCell ⟨hb, i, none⟩ u) := by
  obtain ⟨F, rs, h1, h2, h3, h4, h5, h6⟩ := h.ex
  have hle : w.heap.size ≤ wr.heap.size := h.below.size
  have hu : Upd (fun i => i = hb) wr (wr.setCell ⟨hb, i, none⟩ u) := (Upd.refl (fun i => i = hb) wr).setCell (p := ⟨hb, i, none⟩) (.inr rfl) u
  exact ⟨⟨F, rs, h1.upd hu (fun i hi e => h3 (by subst e; exact hi)), fun i hi => ⟨(h2 i hi).1, Nat.lt_of_lt_of_le (h2 i hi).2 hu.size⟩, h3, h4, h5.upd hu h.ne, h6⟩, h.blk.set_ i u, h.below.trans (hu.below' hle (fun i hi e => by have := h.hbB; omega)), h.hbB, h.rbB, h.ne⟩

theorem MS.cellF (h : MS w rb hb mb T hF hR cs wr) (hc : HaveC cs hF hR) (v : Nat) (hv : v < 12) : wr.cell? ⟨hb, v * 3 + 2, none⟩ = some (.int .i64 (hR v)) := by
  rw [h.blk.cell]
  exact hc.rights v hv

/-- What Wrote leaves of such a state. -/
theorem MS.wrote {w' : World} {T' : Nat} {hF' hR' : Nat → Nat} {F : Nat → Prop} {rs : Array Value} (h : MS w rb hb mb T hF hR cs wr) (h2 : ∀ i, F i → w.heap.size ≤ i ∧ i < wr.heap.size) (h3 : ¬ F hb) (h4 : ¬ F rb) (h5 : Blk wr rb 39 rs) (h6 : rs.size = 36)
    (q1 : RepW w' mb (Ext F wr w') 12 (gOf T' hF' hR')) (q2 : Upd F wr w') : MS w rb hb mb T' hF' hR' cs w' := by
  have hle : w.heap.size ≤ wr.heap.size := h.below.size
  refine ⟨⟨_, rs, q1, ?_, ?_, ?_, h5.upd q2 h4, h6⟩, h.blk.upd q2 h3, h.below.trans (q2.below' hle (fun i hi e => by have := (h2 i e).1; omega)), h.hbB, h.rbB, h.ne⟩
  · rintro i (hi | ⟨h1, h2'⟩)
    · exact ⟨(h2 i hi).1, Nat.lt_of_lt_of_le (h2 i hi).2 q2.size⟩
    · exact ⟨by omega, h2'⟩
  · rintro (hi | ⟨h1, h2'⟩)
    · exact h3 hi
    · have := h.blk.lt; omega
  · rintro (hi | ⟨h1, h2'⟩)
    · exact h4 hi
    · have := h5.lt; omega

theorem tableL (h : MS w rb hb mb 0 hF hR cs wr) :
    Calls Tryd.prog 20 #[.pointer (some ⟨mb, 0, none⟩), .int .i64 1, .int .u32 0, .int .i64 2] wr fun e w' => e = .returned (.int .i64 0) ∧ MS w rb hb mb 2049 hF hR cs w' := by
  obtain ⟨F, rs, h1, h2, h3, h4, h5, h6⟩ := h.ex
  refine (tableOk (by decide) (by decide) (gOf_root _ _ _) (fun i hi => (h2 i hi).2) h1).mono ?_
  rintro e w' ⟨rfl, q1, q2⟩
  rw [gOf_rootPut] at q1
  exact ⟨rfl, h.wrote h2 h3 h4 h5 h6 q1 q2⟩

theorem mapBadL (v p r : Nat) (hp : p < 12) (hr : r = 2 ∨ r = 6) (vz pz rz : Int) (e1 : vz = ((v * 4096 : Nat) : Int)) (e2 : pz = (p : Int)) (e3 : rz = (r : Int)) (h : MS w rb hb mb 2049 hF hR cs wr) :
    Calls Tryd.prog 21 #[.pointer (some ⟨mb, 0, none⟩), .int .i64 1, .int .u32 vz, .int .i64 pz, .int .i64 rz] wr fun e w' => e = .returned (.int .i64 13) ∧ MS w rb hb mb 2049 hF hR cs w' := by
  subst e1 e2 e3
  obtain ⟨F, rs, h1, h2, h3, h4, h5, h6⟩ := h.ex
  refine (mapBad (by decide) (v * 4096) p r (by omega) hp hr h1).mono ?_
  rintro e w' ⟨rfl, q⟩
  exact ⟨rfl, h.step q.upd⟩

theorem mapTwiceL (v p r : Nat) (hv : v < 12) (hp : p < 12) (hr : okR r) (hi : LInv hF hR) (hz : hR v ≠ 0) (vz pz rz : Int) (e1 : vz = ((v * 4096 : Nat) : Int)) (e2 : pz = (p : Int)) (e3 : rz = (r : Int)) (h : MS w rb hb mb 2049 hF hR cs wr) :
    Calls Tryd.prog 21 #[.pointer (some ⟨mb, 0, none⟩), .int .i64 1, .int .u32 vz, .int .i64 pz, .int .i64 rz] wr fun e w' => e = .returned (.int .i64 7) ∧ MS w rb hb mb 2049 hF hR cs w' := by
  subst e1 e2 e3
  obtain ⟨F, rs, h1, h2, h3, h4, h5, h6⟩ := h.ex
  have hk : v * 4096 / 4096 % 1024 = v := by omega
  have hx : gOf 2049 hF hR (2048 + v * 4096 / 4096 % 1024) = entN (hF v) (hR v) := by rw [hk, gOf_ent _ _ _ _ hv]
  have hx0 : entN (hF v) (hR v) ≠ 0 := by
    rcases hi v hv with ⟨h0 | ho, _⟩
    · exact absurd h0 hz
    · unfold entN
      rw [if_neg hz]
      rcases ho with e | e | e | e | e <;> rw [e] <;> simp [flagN]
  refine (mapTwice (by decide) (by decide) (v * 4096) p r _ (by omega) (by omega) hp hr (gOf_root _ _ _) hx hx0 h1).mono ?_
  rintro e w' ⟨rfl, q⟩
  exact ⟨rfl, h.step q.upd⟩

theorem mapNewL (v p r : Nat) (hv : v < 12) (hp : p < 12) (hr : okR r) (hz : hR v = 0) (vz pz rz : Int) (e1 : vz = ((v * 4096 : Nat) : Int)) (e2 : pz = (p : Int)) (e3 : rz = (r : Int)) (h : MS w rb hb mb 2049 hF hR cs wr) :
    Calls Tryd.prog 21 #[.pointer (some ⟨mb, 0, none⟩), .int .i64 1, .int .u32 vz, .int .i64 pz, .int .i64 rz] wr fun e w' => e = .returned (.int .i64 0) ∧ MS w rb hb mb 2049 (put hF v p) (put hR v r) cs w' := by
  subst e1 e2 e3
  obtain ⟨F, rs, h1, h2, h3, h4, h5, h6⟩ := h.ex
  have hk : v * 4096 / 4096 % 1024 = v := by omega
  have hx : gOf 2049 hF hR (2048 + v * 4096 / 4096 % 1024) = 0 := by rw [hk, gOf_ent _ _ _ _ hv, hz]; rfl
  refine (mapNew (by decide) (by decide) (v * 4096) p r (by omega) (by omega) hp hr (gOf_root _ _ _) hx (fun i hi => (h2 i hi).2) h1).mono ?_
  rintro e w' ⟨rfl, q1, q2⟩
  have hr0 : r ≠ 0 := by unfold okR at hr; omega
  have he : p * 1024 + flagN r = entN p r := by unfold entN; rw [if_neg hr0]
  rw [hk, he, gOf_put _ _ _ _ _ _ hv] at q1
  exact ⟨rfl, h.wrote h2 h3 h4 h5 h6 q1 q2⟩

theorem newL (w : World) (zs : Array Value) (hz : zs = zeros36) (m : Nat) (hm : m = w.heap.size + 3) :
    Calls Tryd.prog 5 #[.int .i64 12] ((w.alloc (.cells zs 39)).alloc (.cells zs 39)) fun e w' =>
      e = .returned (.tuple #[.pointer (some ⟨m, 0, none⟩), .int .i64 0]) ∧ MS w w.heap.size (w.heap.size + 1) m 0 (fun _ => 0) (fun _ => 0) zeros36 w' := by
  subst hz hm
  have hs : ((w.alloc (.cells zeros36 39)).alloc (.cells zeros36 39)).heap.size = w.heap.size + 2 := by simp
  have b0 := (Blk.new w 39 zeros36).alloc (.cells zeros36 39)
  have b1 := Blk.new (w.alloc (.cells zeros36 39)) 39 zeros36
  have hs1 : (w.alloc (.cells zeros36 39)).heap.size = w.heap.size + 1 := by simp
  rw [hs1] at b1
  have hb : Below w.heap.size w ((w.alloc (.cells zeros36 39)).alloc (.cells zeros36 39)) :=
    ((Upd.refl (fun _ => False) w).alloc _ |>.alloc _).below (fun _ _ h => h)
  have h := new_ok 12 ((w.alloc (.cells zeros36 39)).alloc (.cells zeros36 39)) (by omega) (by omega)
  generalize ((w.alloc (.cells zeros36 39)).alloc (.cells zeros36 39)) = w2 at *
  rw [hs] at h
  refine h.mono ?_
  rintro e w' ⟨rfl, r1, r2, r3⟩
  refine ⟨rfl, ⟨_, zeros36, ⟨zf, r1, fun k _ => ?_⟩, fun i hi => ⟨by omega, by omega⟩, by omega, by omega, b0.below r2 (by omega), rfl⟩, b1.below r2 (by omega), hb.trans (r2.mono (by omega)), by omega, by omega, by omega⟩
  show wordF zf (k * 4) = gOf 0 (fun _ => 0) (fun _ => 0) k
  have hz : ∀ a, wordF zf a = 0 := fun a => by simp [wordF, zf]
  rw [hz]
  unfold gOf
  split
  · rfl
  · split <;> rfl
end

theorem pick_nat (x : Int) (k : Int) (v : Nat) (w : World) (h : pickI x k = (v : Int)) (hx : -9223372036854775808 ≤ x ∧ x ≤ 9223372036854775807) (hk : 0 < k ∧ k ≤ 9223372036854775807) :
    Calls Tryd.prog 7 #[.int .i64 x, .int .i64 k] w fun e w' => e = .returned (.int .i64 v) ∧ w = w' := by
  rw [← h]
  exact pick_any x k w hx hk

/-- The state in laid's loop. -/
def InLaid (w : World) (mb : Nat) (wr : World) : Prop := ∃ hF hR cs, MS w w.heap.size (w.heap.size + 1) mb 2049 hF hR cs wr ∧ HaveC cs hF hR ∧ LInv hF hR

theorem r3_bits (r : Nat) (hr : r < 7) : (bits .and .i64 (1 + (r : Int)) 3 == 2) = decide (1 + r = 2 ∨ 1 + r = 6) := by
  rcases (by omega : r = 0 ∨ r = 1 ∨ r = 2 ∨ r = 3 ∨ r = 4 ∨ r = 5 ∨ r = 6) with rfl | rfl | rfl | rfl | rfl | rfl | rfl <;> kernel_rfl

theorem lay_load (wr : World) (hb : Nat) (cs : Array Value) (h : Blk wr hb 39 cs) (hs : cs.size = 36) :
    (Instr.loadAt 39 (.pointer (some ⟨hb, 0, none⟩))).run Tryd.prog wr = .ok (.agg cs) wr := by
  have hi : (Tryd.prog.info? 39).map (·.size) = some cs.size := by rw [hs]; kernel_rfl
  simp only [Instr.loadAt, Instr.sureAddr, Sem.run_bind, Sem.run_pure, Result.andThen_ok]
  exact run_loadVar_row _ _ _ _ cs (0, 0) _ h Tryd.underlying39 rfl hi

theorem lay_store (wr : World) (hb : Nat) (cs ds : Array Value) {hF hR : Nat → Nat} (h : Blk wr hb 39 cs) (hs : cs.size = 36) (hd : HaveC ds hF hR) :
    (Instr.storeAt 39 (.pointer (some ⟨hb, 0, none⟩)) (.agg ds)).run Tryd.prog wr = .ok () (wr.setRow hb ds) := by
  have hi : (Tryd.prog.info? 39).map (·.size) = some ds.size := by rw [hd.size]; kernel_rfl
  simp only [Instr.storeAt, Instr.sureAddr, Sem.run_bind, Sem.run_pure, Result.andThen_ok]
  exact run_storeVar_row _ _ _ _ cs ds h hi (by rw [hs, hd.size]) (Array.all_eq_true'.2 hd.one)

theorem Upd.setCells {F : Nat → Prop} {a : World} {b : Nat} (hp : F b) : ∀ (L : List Value) (o : Nat) (w : World), Upd F a w → Upd F a (w.setCells b o L)
  | [], _, _, h => h
  | v :: L, o, w, h => Upd.setCells hp L (o + 1) (w.setCell ⟨b, o, none⟩ v) (h.setCell (p := ⟨b, o, none⟩) (.inr hp) v)

theorem results_mix {fn : Func} {t u : Tmp} {c : Tmp} {ty : TypeId} (h : fn.results = #[.tmp t, .cell c ty, .tmp u]) (tmps : Array Value) (P : Program) (w : World) (a : Addr) (v : Value) (hc : tmps.getD c undef = .pointer (some a)) (hl : (loadVar ty a).run P w = .ok v w) :
    (results fn tmps).run P w = .ok (.tuple #[tmps.getD t undef, v, tmps.getD u undef]) w := by
  have hc' : tmps[c]?.getD undef = .pointer (some a) := by simpa using hc
  simp [results, h, hc', asAddr, hl, Result.andThen]

theorem lay_range {wr : World} {hb : Nat} {L : List Value} {t : TypeId} (h : Blk wr hb t L.toArray) : wr.rangeAt hb 0 L := fun j v hv => by
  rw [Nat.zero_add, h.cell]
  simpa using hv
theorem lay_there {wr : World} {hb : Nat} {cs : Array Value} {t : TypeId} (h : Blk wr hb t cs) : wr.there hb 0 cs.size := fun j hj => by
  rw [Nat.zero_add, h.cell]
  exact ⟨by simp [hj], h.frozen j⟩

set_option maxRecDepth 100000 in
set_option maxHeartbeats 1000000 in
theorem laid_ok (A : Option Addr) (b off len cap : Nat) (hA : 0 < len → A = some ⟨b, off, none⟩) (vs fs rs : Nat → Int) (w : World)
    (hl : ∀ i, i < len → w.cell? ⟨b, off + i * 3, none⟩ = some (.int .i64 (vs i)) ∧ w.cell? ⟨b, off + i * 3 + 1, none⟩ = some (.int .i64 (fs i)) ∧ w.cell? ⟨b, off + i * 3 + 2, none⟩ = some (.int .i64 (rs i)))
    (hv : ∀ i, i < len → (-9223372036854775808 ≤ vs i ∧ vs i ≤ 9223372036854775807) ∧ (-9223372036854775808 ≤ fs i ∧ fs i ≤ 9223372036854775807) ∧ (-9223372036854775808 ≤ rs i ∧ rs i ≤ 9223372036854775807))
    (hlen : len ≤ 9223372036854775807) :
    Calls Tryd.prog 10 #[.slice A len cap] w fun e w' => ∃ mb hF hR cs F, e = .returned (.tuple #[.pointer (some ⟨mb, 0, none⟩), .agg cs, .bool true]) ∧ RepW w' mb F 12 (gOf 2049 hF hR) ∧ (∀ i, F i → w.heap.size ≤ i ∧ i < w'.heap.size) ∧ HaveC cs hF hR ∧ LInv hF hR ∧ Below w.heap.size w w' := by
  have hb : 0 < len → b < w.heap.size := fun h => World.block_lt_of_cell? w _ (hl 0 h).1
  have HA := Lib.hid hA
  have HL := Lib.hid hl
  have HV := Lib.hid hv
  clear hA hl hv
  go_enter Tryd.func10, Tryd.ntmps10
  go_wp2_with fail
  refine (newL w _ rfl (w.heap.size + 3) rfl).mono ?_
  rintro e w1 ⟨rfl, h0⟩
  have H0 := Lib.hid h0
  clear h0
  generalize w.heap.size + 3 = mb at H0
  go_wp2_with fail
  refine (tableL H0.out).mono ?_
  rintro e w2 ⟨rfl, h1⟩
  have H1 : Hid (InLaid w mb w2) := Lib.hid ⟨_, _, _, h1, HaveC.zero, fun v _ => ⟨.inl rfl, Nat.succ_pos 11⟩⟩
  clear h1 H0
  go_wp2_with fail
  go_loopw [9] (fun vi wr => ∃ k : Nat, k ≤ len ∧ k ≤ 40 ∧ vi = .int .i64 k ∧ InLaid w mb wr) (fun i _ => len - (intOf i).toNat)
  case atStart => exact ⟨0, by omega, by omega, rfl, H1.out⟩
  case round =>
    obtain ⟨k, hk, hk2, rfl, hinv⟩ := hrel
    clear H1
    by_cases hlt : k < len
    · by_cases hlt2 : k < 40
      · have hAe := HA.out (by omega)
        subst hAe
        obtain ⟨hc1, hc2, hc3⟩ := HL.out k hlt
        have hbk := hb (by omega)
        obtain ⟨hF, hR, cs, hM, hC, hI⟩ := hinv
        have hr1 : wr.cell? ⟨b, off + k * 3, none⟩ = some (.int .i64 (vs k)) := (hM.below.cell (p := ⟨b, off + k * 3, none⟩) hbk).trans hc1
        have hr2 : wr.cell? ⟨b, off + k * 3 + 1, none⟩ = some (.int .i64 (fs k)) := (hM.below.cell (p := ⟨b, off + k * 3 + 1, none⟩) hbk).trans hc2
        have hr3 : wr.cell? ⟨b, off + k * 3 + 2, none⟩ = some (.int .i64 (rs k)) := (hM.below.cell (p := ⟨b, off + k * 3 + 2, none⟩) hbk).trans hc3
        obtain ⟨hx1, hx2, hx3⟩ := HV.out k hlt
        clear hc1 hc2 hc3
        generalize vs k = xv at hr1 hx1
        generalize fs k = xf at hr2 hx2
        generalize rs k = xr at hr3 hx3
        obtain ⟨v, ev⟩ := Int.eq_ofNat_of_zero_le (pickI_bound xv 12 (by omega)).1
        have hv12 : v < 12 := by have := (pickI_bound xv 12 (by omega)).2; omega
        obtain ⟨p, ep⟩ := Int.eq_ofNat_of_zero_le (pickI_bound xf 8 (by omega)).1
        have hp8 : p < 8 := by have := (pickI_bound xf 8 (by omega)).2; omega
        obtain ⟨r, er⟩ := Int.eq_ofNat_of_zero_le (pickI_bound xr 7 (by omega)).1
        have hr7 : r < 7 := by have := (pickI_bound xr 7 (by omega)).2; omega
        have PV := Lib.hid (fun w => pick_nat xv 12 v w ev hx1 (by omega))
        have PF := Lib.hid (fun w => pick_nat xf 8 p w ep hx2 (by omega))
        have PR := Lib.hid (fun w => pick_nat xr 7 r w er hx3 (by omega))
        have hb3 := r3_bits r hr7
        have HM := Lib.hid hM
        have HC := Lib.hid hC
        have HI := Lib.hid hI
        clear ev ep er hx1 hx2 hx3 hM hC hI
        have n1 : (v : Int) < 12 := by omega
        have n2 : (p : Int) < 8 := by omega
        have n3 : (r : Int) < 7 := by omega
        by_cases hbad : 1 + r = 2 ∨ 1 + r = 6
        · rw [decide_eq_true hbad] at hb3
          have HB := Lib.hid (mapBadL v (4 + p) (1 + r) (by omega) hbad (v * 4096) (4 + p) (1 + r) (by omega) (by omega) (by omega) HM.out)
          clear hbad
          go_wp2_with fail
          refine (PV.out _).mono ?_
          rintro e w1 ⟨rfl, rfl⟩
          go_wp2_with fail
          refine (PF.out _).mono ?_
          rintro e w1 ⟨rfl, rfl⟩
          go_wp2_with fail
          refine (PR.out _).mono ?_
          rintro e w1 ⟨rfl, rfl⟩
          go_wp2_with fail
          refine HB.out.mono ?_
          rintro e w1 ⟨rfl, hm⟩
          have HM2 := Lib.hid hm
          clear hm
          go_wp2_with fail
          go_roundw
          case rel => exact ⟨k + 1, by omega, by omega, by go_num, _, _, _, HM2.out, HC.out, HI.out⟩
          case measure => simp [intOf]; omega
        · rw [decide_eq_false hbad] at hb3
          have hok : okR (1 + r) := by unfold okR; omega
          by_cases hz : hR v = 0
          · have HB := Lib.hid (mapNewL v (4 + p) (1 + r) hv12 (by omega) hok hz (v * 4096) (4 + p) (1 + r) (by omega) (by omega) (by omega) HM.out)
            clear hbad
            go_wp2_with fail
            refine (PV.out _).mono ?_
            rintro e w1 ⟨rfl, rfl⟩
            go_wp2_with fail
            refine (PF.out _).mono ?_
            rintro e w1 ⟨rfl, rfl⟩
            go_wp2_with fail
            refine (PR.out _).mono ?_
            rintro e w1 ⟨rfl, rfl⟩
            go_wp2_with fail
            refine HB.out.mono ?_
            rintro e w1 ⟨rfl, hm⟩
            have HM2 := Lib.hid hm
            clear hm
            have c1 : w1.cell? ⟨w.heap.size + 1, v * 3 + 2, none⟩ = some (.int .i64 0) := by
              have h := HM2.out.blk.cell (v * 3 + 2)
              rw [HC.out.rights v hv12, hz] at h
              exact h
            obtain ⟨z0, hz0⟩ := HC.out.va v hv12
            have c2 : w1.cell? ⟨w.heap.size + 1, v * 3, none⟩ = some (.int .i64 z0) := (HM2.out.blk.cell (v * 3)).trans hz0
            have c3 : w1.cell? ⟨w.heap.size + 1, v * 3 + 1, none⟩ = some (.int .i64 (hF v)) := (HM2.out.blk.cell (v * 3 + 1)).trans (HC.out.frame v hv12)
            have f1 : ∀ i, w1.frozen? ⟨w.heap.size + 1, i, none⟩ = false := fun i => HM2.out.blk.frozen i
            have HOK := Lib.hid hok
            clear hz0 hz hok
            go_wp2_with fail
            go_roundw
            case rel =>
              exact ⟨k + 1, by omega, by omega, by go_num, _, _, _, ((HM2.out.set (v * 3) _).set (v * 3 + 1) _).set (v * 3 + 2) _, HC.out.put v (4 + p) (1 + r) _ _ _ hv12 (by omega) (by omega), HI.out.put v (4 + p) (1 + r) ⟨.inr HOK.out, by omega⟩⟩
            case measure => simp [intOf]; omega
          · have HB := Lib.hid (mapTwiceL v (4 + p) (1 + r) hv12 (by omega) hok HI.out hz (v * 4096) (4 + p) (1 + r) (by omega) (by omega) (by omega) HM.out)
            clear hbad
            go_wp2_with fail
            refine (PV.out _).mono ?_
            rintro e w1 ⟨rfl, rfl⟩
            go_wp2_with fail
            refine (PF.out _).mono ?_
            rintro e w1 ⟨rfl, rfl⟩
            go_wp2_with fail
            refine (PR.out _).mono ?_
            rintro e w1 ⟨rfl, rfl⟩
            go_wp2_with fail
            refine HB.out.mono ?_
            rintro e w1 ⟨rfl, hm⟩
            have HM2 := Lib.hid hm
            clear hm
            have c1 : w1.cell? ⟨w.heap.size + 1, v * 3 + 2, none⟩ = some (.int .i64 (hR v)) := HM2.out.cellF HC.out v hv12
            have z1 : 0 < hR v := by omega
            clear hz hok
            go_wp2_with fail
            go_roundw
            case rel => exact ⟨k + 1, by omega, by omega, by go_num, _, _, _, HM2.out, HC.out, HI.out⟩
            case measure => simp [intOf]; omega
      · have hd2 : (40 : Int) ≤ (k : Int) := by omega
        clear hlt2
        go_wp2_with fail
        obtain ⟨hF, hR, cs, hM, hC, hI⟩ := hinv
        obtain ⟨F, rs, m1, m2, m3, m4, m5, m6⟩ := hM.ex
        obtain ⟨L, rfl⟩ : ∃ L : List Value, cs = L.toArray := ⟨cs.toList, by simp⟩
        have hL : L.length = 36 := hC.size
        have hu := Tryd.underlying39
        have hi : (Tryd.prog.info? 39).map (·.size) = some L.length := by rw [hL]; kernel_rfl
        have hone : ∀ v ∈ L, v.oneCell' = true := fun v hv => hC.one v (by simpa using hv)
        have hra : wr.rangeAt (w.heap.size + 1) 0 L := lay_range hM.blk
        have hth : wr.there w.heap.size 0 L.length := by rw [hL, ← m6]; exact lay_there m5
        have HM := Lib.hid hM
        have HC := Lib.hid hC
        have HI := Lib.hid hI
        have HF := Lib.hid (And.intro m1 (And.intro m2 m4))
        clear m1 m2 m3 m4 m5 m6 hM hC hI hk hk2 hb
        go_region_held3 (fun w' => w'.rangeAt (w.heap.size + 1) 0 L ∧ w'.there w.heap.size 0 L.length) (go_keep_ranges) (fail)
        all_goals go_wp2_with fail
        all_goals refine bodyPost_ret (results_mix rfl _ _ _ ⟨w.heap.size, 0, none⟩ (.agg L.toArray) rfl (run_loadVar_mid _ _ _ _ L _ (World.rangeAt_setCells_same _ _ _ _ ((World.there_drew _ _ _ _).2 hth)) hu rfl hi)) rfl ?_
        all_goals
          have hup : Upd (fun i => i = w.heap.size) wr (wr.drew.setCells w.heap.size 0 L) := Upd.setCells (F := fun i => i = w.heap.size) (a := wr) (b := w.heap.size) rfl L 0 _ (Upd.refl (fun i => i = w.heap.size) wr).drew
          obtain ⟨m1, m2, m4⟩ := HF.out
          exact ⟨mb, hF, hR, L.toArray, F, rfl, m1.upd hup (fun i hi e => m4 (by subst e; exact hi)), fun i hi => ⟨(m2 i hi).1, Nat.lt_of_lt_of_le (m2 i hi).2 hup.size⟩, HC.out, HI.out, HM.out.below.trans (hup.below' HM.out.below.size (fun i hi e => by omega))⟩
    · have hke : k = len := by omega
      subst hke
      clear hlt
      go_wp2_with fail
      obtain ⟨hF, hR, cs, hM, hC, hI⟩ := hinv
      obtain ⟨F, rs, m1, m2, m3, m4, m5, m6⟩ := hM.ex
      obtain ⟨L, rfl⟩ : ∃ L : List Value, cs = L.toArray := ⟨cs.toList, by simp⟩
      have hL : L.length = 36 := hC.size
      have hu := Tryd.underlying39
      have hi : (Tryd.prog.info? 39).map (·.size) = some L.length := by rw [hL]; kernel_rfl
      have hone : ∀ v ∈ L, v.oneCell' = true := fun v hv => hC.one v (by simpa using hv)
      have hra : wr.rangeAt (w.heap.size + 1) 0 L := lay_range hM.blk
      have hth : wr.there w.heap.size 0 L.length := by rw [hL, ← m6]; exact lay_there m5
      have HM := Lib.hid hM
      have HC := Lib.hid hC
      have HI := Lib.hid hI
      have HF := Lib.hid (And.intro m1 (And.intro m2 m4))
      clear m1 m2 m3 m4 m5 m6 hM hC hI hk hk2 hb
      go_region_held3 (fun w' => w'.rangeAt (w.heap.size + 1) 0 L ∧ w'.there w.heap.size 0 L.length) (go_keep_ranges) (fail)
      all_goals go_wp2_with fail
      all_goals refine bodyPost_ret (results_mix rfl _ _ _ ⟨w.heap.size, 0, none⟩ (.agg L.toArray) rfl (run_loadVar_mid _ _ _ _ L _ (World.rangeAt_setCells_same _ _ _ _ ((World.there_drew _ _ _ _).2 hth)) hu rfl hi)) rfl ?_
      all_goals
        have hup : Upd (fun i => i = w.heap.size) wr (wr.drew.setCells w.heap.size 0 L) := Upd.setCells (F := fun i => i = w.heap.size) (a := wr) (b := w.heap.size) rfl L 0 _ (Upd.refl (fun i => i = w.heap.size) wr).drew
        obtain ⟨m1, m2, m4⟩ := HF.out
        exact ⟨mb, hF, hR, L.toArray, F, rfl, m1.upd hup (fun i hi e => m4 (by subst e; exact hi)), fun i hi => ⟨(m2 i hi).1, Nat.lt_of_lt_of_le (m2 i hi).2 hup.size⟩, HC.out, HI.out, HM.out.below.trans (hup.below' HM.out.below.size (fun i hi e => by omega))⟩
end Go.Proofs.YtiknigdjmbdfgaaDoor
