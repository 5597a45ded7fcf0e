/- A slice of objects of the call's own: one more behind; sorted. -/
import Derived.Test.YtjjgdacjfmiamaaPoolSort
import Derived.Maps.AppendAt
import Derived.Lib.AppendZeros
namespace Go.Proofs.Ytjjgdacjfmiamaa
open Go.RowKit Go.Lib Go.Sort

def obCells (x : Ob) : List Value := [.int .i64 x.1, .int .i64 x.2]
def rowO (L : List Ob) : List Value := L.flatMap obCells
theorem rowO_cons (x : Ob) (L : List Ob) : rowO (x :: L) = obCells x ++ rowO L := by unfold rowO; rw [List.flatMap_cons]
theorem rowO_app (L M : List Ob) : rowO (L ++ M) = rowO L ++ rowO M := by unfold rowO; rw [List.flatMap_append]
theorem rowO_len (L : List Ob) : (rowO L).length = L.length * 2 := by
  induction L with
  | nil => rfl
  | cons x L ih => rw [rowO_cons, List.length_append, ih, List.length_cons]; show 2 + _ = _; omega
theorem rowO_get : ∀ (L : List Ob) (i : Nat) (h : i < L.length) (j : Nat), j < 2 → (rowO L)[i * 2 + j]? = (obCells L[i])[j]?
  | x :: L, 0, h, j, hj => by
    rw [rowO_cons, List.getElem?_append_left (by show _ < 2; omega)]
    simp
  | x :: L, i + 1, h, j, hj => by
    rw [rowO_cons, List.getElem?_append_right (by show 2 ≤ _; omega), show (i + 1) * 2 + j - (obCells x).length = i * 2 + j by show _ - 2 = _; omega, rowO_get L i (by simpa using h) j hj]
    simp

/-- The value v of a slice in which L stands, its row among the blocks from base on. -/
def ObV (w : World) (base : Nat) (v : Value) (L : List Ob) : Prop := w.ownsRow base 28 2 v L.length (rowO L)

theorem info_ob : (Try.prog.info? 28).map (fun i => (i.zero, i.size, i.bytes)) = some (some (.agg #[.int .i64 0, .int .i64 0]), 2, 16) := by kernel_rfl

theorem ObV.nil (w : World) (base : Nat) : ObV w base (.slice none 0 0) [] := World.ownsRow_nil _ _ _ _
theorem ObV.kept {w w' : World} {base : Nat} {v : Value} {L : List Ob} {F : Nat → Prop} (h : ObV w base v L) (hu : Upd F w w') (hF : ∀ b, v.ownBlock = some b → ¬ F b) : ObV w' base v L := by
  refine ⟨h.1, ?_⟩
  rcases h.2 with hn | ⟨g, cap, cur, rfl, hb, hg, rest⟩
  · exact .inl hn
  · exact .inr ⟨g, cap, cur, rfl, hb, (hu.block g (Array.getElem?_eq_some_iff.1 hg).1 (hF g rfl)).trans hg, rest⟩
theorem ObV.own_ge {w : World} {base : Nat} {v : Value} {L : List Ob} (h : ObV w base v L) {b : Nat} (hb : v.ownBlock = some b) : base ≤ b := by
  rcases h.2 with ⟨rfl, _⟩ | ⟨g, cap, cur, rfl, hg, _⟩
  · cases hb
  · cases hb
    exact hg
theorem ObV.shape {w : World} {base : Nat} {v : Value} {L : List Ob} (h : ObV w base v L) : ∃ A cap, v = .slice A L.length cap ∧ cap ≤ maxLen ∧ (0 < L.length → ∃ q, A = some ⟨q, 0, none⟩ ∧ base ≤ q ∧ q < w.heap.size) := by
  rcases h.2 with ⟨rfl, h0⟩ | ⟨g, cap, cur, rfl, hg, hb, _, hcm, _⟩
  · exact ⟨none, 0, by rw [h0], by unfold maxLen; omega, by omega⟩
  · exact ⟨_, cap, rfl, hcm, fun _ => ⟨g, rfl, hg, (Array.getElem?_eq_some_iff.1 hb).1⟩⟩

/-- One more behind. -/
theorem ObV.app {w : World} {base : Nat} {v : Value} {L : List Ob} (h : ObV w base v L) (x : Ob) (hbase : base ≤ w.heap.size) (hlen : L.length ≤ 1000000) :
    ∃ A' n' c' w1, (Builtin.append_ #[30, 30] 30 #[v, .slice (some ⟨w.heap.size, 0, none⟩) 1 1]).run Try.prog (w.alloc (.cells #[.int .i64 x.1, .int .i64 x.2] 28)) = .ok (.slice A' n' c') w1 ∧ ObV w1 base (.slice A' n' c') (L ++ [x]) ∧ Upd (fun b => base ≤ b) w w1 ∧ Upd (fun b => v.ownBlock = some b) w w1 ∧ ((Value.slice A' n' c').ownBlock = v.ownBlock ∨ ∃ b, (Value.slice A' n' c').ownBlock = some b ∧ w.heap.size ≤ b) := by
  obtain ⟨i0, hi, hz0, hz1, hz2⟩ := info_parts info_ob
  have hB := Blk.new w 28 #[.int .i64 x.1, .int .i64 x.2]
  obtain ⟨v', w1, hr, ho, hg, hn, hb⟩ := run_append_own_at (P := Try.prog) (w.alloc (.cells #[.int .i64 x.1, .int .i64 x.2] 28)) base 30 30 28 i0 _ 2 16 Try.underlying30 hi hz0 hz1 hz2 rfl (by decide) v L.length (rowO L) (World.ownsRow.alloc h _)
    ⟨w.heap.size, 0, none⟩ 1 1 (obCells x) rfl (fun j u hj => by
      have hadd : ((⟨w.heap.size, 0, none⟩ : Addr).add j) = ⟨w.heap.size, j, none⟩ := by unfold Addr.add; split <;> simp_all
      rw [hadd, hB.cell]
      unfold obCells at hj
      simpa using hj) (fun u hu => by unfold obCells at hu; simp at hu; rcases hu with rfl | rfl <;> rfl) (by unfold maxLen; omega) (by omega) (by simp; omega)
  have hu0 : Upd (fun b => base ≤ b) w (w.alloc (.cells #[.int .i64 x.1, .int .i64 x.2] 28)) := (Upd.refl _ _).alloc _
  have hu : Upd (fun b => base ≤ b) w w1 := hu0.grown hg (fun k hk => .inr (h.own_ge hk))
  have hu00 : Upd (fun b => v.ownBlock = some b) w (w.alloc (.cells #[.int .i64 x.1, .int .i64 x.2] 28)) := (Upd.refl _ _).alloc _
  have hu2 : Upd (fun b => v.ownBlock = some b) w w1 := hu00.grown hg (fun k hk => .inr hk)
  have ho' : ObV w1 base v' (L ++ [x]) := by
    unfold ObV
    rw [rowO_app]
    have e : rowO [x] = obCells x := by unfold rowO; simp
    rw [e]
    simpa using ho
  obtain ⟨A', c', hv', _⟩ := ho'.shape
  subst hv'
  refine ⟨A', _, c', w1, hr, ho', hu, hu2, ?_⟩
  rcases hb with h | h
  · exact .inl h
  · exact .inr ⟨_, h, by simp⟩

theorem ObV.cells {w : World} {base : Nat} {v : Value} {L : List Ob} (h : ObV w base v L) (hpos : 0 < L.length) : ∃ q cap cur, v = .slice (some ⟨q, 0, none⟩) L.length cap ∧ base ≤ q ∧ Blk w q 28 cur ∧ L.length * 2 ≤ cur.size ∧ cur.toList.take (L.length * 2) = rowO L ∧ ObsAt w q L := by
  rcases h.2 with ⟨rfl, h0⟩ | ⟨g, cap, cur, rfl, hb, hg, hn, hcm, hcs, htk⟩
  · omega
  · refine ⟨g, cap, cur, rfl, hb, hg, by rw [hcs]; exact Nat.mul_le_mul_right 2 hn, htk, fun i hi => ?_⟩
    have hget : ∀ j, j < 2 → w.cell? ⟨g, i * 2 + j, none⟩ = (obCells L[i])[j]? := fun j hj => by
      rw [cell_of_row w g _ cur _ (0, 0) hg, ← rowO_get L i hi j hj, ← htk, List.getElem?_take, if_pos (by omega)]
      simp
    exact ⟨hget 0 (by omega), hget 1 (by omega)⟩

def toS (x : Ob) : SOb := (Fin.ofNat 16 x.1, Fin.ofNat 65536 x.2)
def ofS (x : SOb) : Ob := (x.1.1, x.2.1)
theorem ofS_toS {x : Ob} (h1 : x.1 < 16) (h2 : x.2 < 65536) : ofS (toS x) = x := by
  unfold ofS toS
  simp [Fin.ofNat, Nat.mod_eq_of_lt h1, Nat.mod_eq_of_lt h2]

/-- The slice sorted: the same objects, in another order. -/
theorem sort_own {w : World} {base : Nat} {v : Value} {L : List Ob} (h : ObV w base v L) (hpos : 0 < L.length) (hs : ∀ x ∈ L, x.1 < 16 ∧ x.2 < 65536) (hlen : L.length ≤ 1000000) : ∃ q cap, v = .slice (some ⟨q, 0, none⟩) L.length cap ∧ base ≤ q ∧ q < w.heap.size ∧
    Calls Try.prog 14 #[.slice (some ⟨q, 0, none⟩) L.length cap, .func (.func 15) #[] #[]] w fun e w' => e = .returned (.tuple #[]) ∧ ∃ L', L'.Perm L ∧ L'.length = L.length ∧ ObsAt w' q L' ∧ Upd (fun i => i = q) w w' := by
  obtain ⟨q, cap, cur, rfl, hb, hblk, hsz, htk, hat⟩ := h.cells hpos
  refine ⟨q, cap, rfl, hb, hblk.lt, ?_⟩
  have hget : ∀ (i : Nat) (h : i < L.length), (L.map toS).toArray[i]! = toS L[i] := fun i hi => by
    rw [getElem!_pos _ i (by simpa using hi)]
    simp
  have hH : HoldsK encOb 2 w q 0 (L.map toS).toArray := by
    unfold HoldsK Holds
    intro j hj
    have hj' : j < L.length * 2 := by simpa using hj
    rw [get_flatK _ _ _ _ (by simpa using hj')]
    have hi : j / 2 < L.length := by omega
    rw [hget _ hi]
    refine ⟨?_, hblk.frozen _⟩
    have hc := hat (j / 2) hi
    obtain ⟨s1, s2⟩ := hs _ (List.getElem_mem hi)
    have he : ofS (toS L[j / 2]) = L[j / 2] := ofS_toS s1 s2
    have e1 : (toS L[j / 2]).1.1 = L[j / 2].1 := congrArg Prod.fst he
    have e2 : (toS L[j / 2]).2.1 = L[j / 2].2 := congrArg Prod.snd he
    unfold encOb
    rcases Nat.mod_two_eq_zero_or_one j with hm | hm
    · rw [hm, show 0 + j = j / 2 * 2 by omega, hc.1, e1]
      rfl
    · rw [hm, show 0 + j = j / 2 * 2 + 1 by omega, hc.2, e2]
      rfl
  have hcon := sort_ob q 0 cap (L.map toS).toArray w hH hblk.lt (by simp; omega)
  rw [show (L.map toS).toArray.size = L.length by simp] at hcon
  refine hcon.mono ?_
  rintro e w' ⟨rfl, d', n, os, ⟨hd, _, hp⟩, rfl⟩
  have hd' : d'.size = L.length := by simpa using hd
  refine ⟨rfl, d'.toList.map ofS, ?_, by simp [hd'], ?_, ?_⟩
  · have e1 : (d'.extract 0 L.length).toList = d'.toList := by rw [← hd']; simp
    have e2 : ((L.map toS).toArray.extract 0 L.length).toList = L.map toS := by simp; rw [List.take_of_length_le (by simp)]
    rw [e1, e2] at hp
    have := hp.map ofS
    rw [List.map_map] at this
    have e3 : L.map (ofS ∘ toS) = L := by
      rw [show L.map (ofS ∘ toS) = L.map id from List.map_congr_left (fun x hx => ofS_toS (hs x hx).1 (hs x hx).2), List.map_id]
    rw [e3] at this
    exact this
  · intro i hi
    have hi' : i < d'.size := by simpa using hi
    have hp2 := holdsK_grow encOb 2 (putRowK encOb 2 (Sort.ahead w n) q 0 d') os q 0 d' (by have := hblk.lt; simpa [putRowK, putRow, mapBlock, Sort.ahead] using this) (holdsK_putRowK encOb 2 (Sort.ahead w n) q 0 _ d' (holdsK_ahead encOb 2 w n q 0 _ hH) (by simpa using hd'))
    have c0 := (hp2.cell (i := i) (c := 0) hi' (by omega)).1
    have c1 := (hp2.cell (i := i) (c := 1) hi' (by omega)).1
    rw [getElem!_pos d' i hi'] at c0 c1
    simp only [Nat.zero_add, Nat.add_zero] at c0 c1
    unfold sortWorldK
    rw [List.getElem_map, Array.getElem_toList]
    exact ⟨c0, c1⟩
  · refine ⟨rfl, rfl, rfl, ?_, fun k hk hne => ?_⟩
    · unfold sortWorldK
      simp [putRowK, putRow, mapBlock, Sort.ahead, Sort.grow]
    · unfold sortWorldK
      rw [heap_grow_old _ _ (by simpa [putRowK, putRow, mapBlock, Sort.ahead] using hk)]
      have : q ≠ k := fun e => hne e.symm
      simp [putRowK, putRow, mapBlock, Sort.ahead, Array.getElem?_modify, this]
end Go.Proofs.Ytjjgdacjfmiamaa
