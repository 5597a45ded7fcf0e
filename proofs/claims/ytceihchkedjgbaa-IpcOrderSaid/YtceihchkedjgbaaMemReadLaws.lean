/- Laws for Read: appends of bytes to a row that has room, and what the row then holds. -/
import Derived.Test.YtceihchkedjgbaaMemPlain
import Derived.Lib.AppendZeros
import Derived.Laws.BytesString
namespace Go.Proofs.Ytceihchkedjgbaa
open Go.RowKit Go.Lib

theorem zeroCells_u8 (m : Nat) : (Builtin.zeroCells #[Value.int .u8 0] m).toList = List.replicate m (Value.int .u8 0) := by
  apply List.ext_getElem?
  intro j
  by_cases h : j < m
  · simp [Builtin.zeroCells, h, Nat.mod_one]
  · simp [Builtin.zeroCells, h]

theorem run_append_room_zeros {P : Program} (w : World) (t tn ty e : TypeId) (i : TypeInfo) (k kn : IntKind) (ht : P.underlying t = some (.slice e)) (htn : P.underlying tn = some (.int kn)) (hi : P.info? e = some i)
    (hz : i.zero = some (.int .u8 0)) (hs : i.size = 1) (hby : i.bytes = 1) (g sLen sCap m : Nat) (cur : Array Value) (te : TypeId) (hg : Blk w g te cur) (hroom : sLen + m ≤ sCap) (hfit : sLen + m ≤ cur.size) (hm : m ≤ 4096) :
    (Builtin.append_ #[t, tn] ty #[.slice (some ⟨g, 0, none⟩) sLen sCap, .int k m]).run P w =
      .ok (.slice (some ⟨g, 0, none⟩) (sLen + m) sCap) (w.setRow g (cur.toList.take sLen ++ List.replicate m (Value.int .u8 0) ++ cur.toList.drop (sLen + m)).toArray) := by
  have hw : IntKind.i64.wrap (m : Int) = m := by rw [IntKind.wrap_i64]; omega
  have hneg : ¬ ((m : Int) < 0) := by omega
  have h48i : ¬ (281474976710656 < (m : Int) * (i.bytes : Int)) := by rw [hby]; omega
  have hst := run_storeCells_at P g sLen te (List.replicate m (Value.int .u8 0)) 0 cur w hg (by simpa using hfit) (by intro v hv; rw [List.mem_replicate] at hv; rw [hv.2]; rfl)
  simp only [Nat.add_zero, List.length_replicate] at hst
  have hadd : ((⟨g, 0, none⟩ : Addr).add sLen) = ⟨g, sLen, none⟩ := by unfold Addr.add; split <;> simp_all
  by_cases h0 : m = 0
  · subst h0
    have hself : w.setRow g (cur.toList.take sLen ++ List.replicate 0 (Value.int .u8 0) ++ cur.toList.drop (sLen + 0)).toArray = w := by
      simp only [List.replicate_zero, List.append_nil, Nat.add_zero, List.take_append_drop, Array.toArray_toList]
      exact setRow_self w g cur te (0, 0) hg
    rw [hself]
    simp at hw
    simp [Builtin.append_, run_underlying ht, run_underlying htn, sizeOf, typeInfo, hi, asInt, asIntOf, hw, hs, hby, storeCells]
    omega
  · simp [Builtin.append_, run_underlying ht, run_underlying htn, sizeOf, typeInfo, zeroValue, hi, hz, asInt, asIntOf, hw, hneg, h48i, hroom, hs, hadd, Value.cells, zeroCells_u8, hst, h0]

theorem rowN_splice (N : Nat) (f d : Nat → UInt8) (a n : Nat) (hn : a + n ≤ N) :
    ((rowN N f 0).toList.take a ++ ((List.range n).map fun i => Value.int .u8 ((d i).toNat : Int)) ++ (rowN N f 0).toList.drop (a + n)).toArray = rowN N (over f a n d) 0 := by
  unfold rowN
  congr 1
  apply List.ext_getElem?
  intro j
  simp only [List.append_assoc, Nat.zero_add]
  by_cases h1 : j < a
  · rw [List.getElem?_append_left (by simp; omega)]
    rw [List.getElem?_take_of_lt h1]
    simp [show j < N by omega]
    rw [over_out _ _ _ _ _ (by omega)]
  · by_cases h2 : j < a + n
    · rw [List.getElem?_append_right (by simp; omega)]
      rw [List.getElem?_append_left (by simp; omega)]
      have hq : j - (List.take a (List.map (fun i => Value.int IntKind.u8 ((f i).toNat : Int)) (List.range N))).length = j - a := by simp; omega
      have ho : over f a n d j = d (j - a) := by
        unfold over
        rw [if_pos (by omega)]
      rw [hq]
      simp [show j < N by omega, show j - a < n by omega, ho]
    · rw [List.getElem?_append_right (by simp; omega)]
      rw [List.getElem?_append_right (by simp; omega)]
      have hq : j - (List.take a (List.map (fun i => Value.int IntKind.u8 ((f i).toNat : Int)) (List.range N))).length - (List.map (fun i => Value.int IntKind.u8 ((d i).toNat : Int)) (List.range n)).length = j - (a + n) := by
        simp
        omega
      rw [hq, List.getElem?_drop, show a + n + (j - (a + n)) = j by omega]
      by_cases h3 : j < N
      · simp [h3]
        rw [over_out _ _ _ _ _ (by omega)]
      · simp [h3]

theorem zeros_map (m : Nat) : List.replicate m (Value.int .u8 0) = (List.range m).map fun _ => Value.int .u8 ((0 : UInt8).toNat : Int) := by
  apply List.ext_getElem?
  intro j
  by_cases h : j < m <;> simp [h]

/-- no bytes yet -/
def zf : Nat → UInt8 := fun _ => 0

theorem rowN_extend (n k m : Nat) (d D : Nat → UInt8) (hn : k + m ≤ n) (hd : ∀ i, i < m → d i = D (k + i)) :
    ((rowN n (over zf 0 k D) 0).toList.take k ++ ((List.range m).map fun i => Value.int .u8 ((d i).toNat : Int)) ++ (rowN n (over zf 0 k D) 0).toList.drop (k + m)).toArray = rowN n (over zf 0 (k + m) D) 0 := by
  rw [rowN_splice n _ d k m hn]
  apply rowN_congr
  intro i _
  simp only [Nat.zero_add]
  unfold over
  by_cases h1 : k ≤ i ∧ i < k + m
  · rw [if_pos h1, if_pos (by omega), hd _ (by omega), show k + (i - k) = i - 0 by omega]
  · rw [if_neg h1]
    by_cases h2 : i < k
    · rw [if_pos (by omega), if_pos (by omega)]
    · rw [if_neg (by omega), if_neg (by omega)]

/-- The text of n bytes from place a on. -/
def textOf (f : Nat → UInt8) (a n : Nat) : ByteArray := ⟨((List.range n).map fun i => f (a + i)).toArray⟩
theorem textOf_size (f : Nat → UInt8) (a n : Nat) : (textOf f a n).size = n := by
  rw [size_eq]
  simp [textOf]
theorem textOf_at (f : Nat → UInt8) (a n i : Nat) (h : i < n) : bAt (textOf f a n) i = f (a + i) := by
  simp [bAt, textOf, h]

theorem foldl_push (l : List UInt8) : ∀ s : ByteArray, (l.map fun b : UInt8 => ((b.toNat : Nat) : Int)).foldl (fun (r : ByteArray) n => r.push (UInt8.ofNat n.toNat)) s = ⟨(s.data.toList ++ l).toArray⟩ := by
  induction l with
  | nil => intro s; obtain ⟨⟨d⟩⟩ := s; simp
  | cons b l ih =>
    intro s
    obtain ⟨⟨d⟩⟩ := s
    simp only [List.map_cons, List.foldl_cons, Int.toNat_natCast, UInt8.ofNat_toNat]
    rw [ih]
    simp [ByteArray.push]

/-- The conversion of a row of bytes to a text. -/
theorem run_textOf {P : Program} (w : World) (g n cap : Nat) (t : TypeId) (f : Nat → UInt8) (hg : Blk w g t (rowN n f 0)) :
    (Conv.bytesToString (.slice (some ⟨g, 0, none⟩) n cap)).run P w = .ok (.string (textOf f 0 n)) w := by
  have hl : ((List.range n).map fun i => f (0 + i)).map (fun b : UInt8 => ((b.toNat : Nat) : Int)) = (List.range n).map fun i => ((f (0 + i)).toNat : Int) := by simp
  have h := run_bytesToString (P := P) w ⟨g, 0, none⟩ n cap ((List.range n).map fun i => ((f (0 + i)).toNat : Int)) (by
    have hc := run_loadCells_list (P := P) w ⟨g, 0, none⟩ (((List.range n).map fun i => ((f (0 + i)).toNat : Int)).map (Value.int .u8)) (by
      intro j v hj
      have hadd : ((⟨g, 0, none⟩ : Addr).add j) = ⟨g, j, none⟩ := by unfold Addr.add; split <;> simp_all
      rw [hadd, hg.cell, ← hj]
      unfold rowN
      simp only [List.map_map, List.getElem?_toArray]
      rfl)
    simpa using hc)
  rw [h, ← hl, foldl_push]
  simp [textOf]
end Go.Proofs.Ytceihchkedjgbaa
