/- Plain facts on a memory's bytes: a row of 4096 cells, bytes written from a place on. No conditions. -/
import Derived.Test.YtceihchkedjgbaaHeap
namespace Go.Proofs.Ytceihchkedjgbaa
open Go.RowKit Go.Lib

/-- The cells of page p of the bytes f. -/
def rowN (N : Nat) (f : Nat → UInt8) (o : Nat) : Array Value := ((List.range N).map fun i => Value.int .u8 ((f (o + i)).toNat : Int)).toArray
def pgRow (f : Nat → UInt8) (p : Nat) : Array Value := rowN 4096 f (p * 4096)

/-- n bytes from place a on are those of d. -/
def over (f : Nat → UInt8) (a n : Nat) (d : Nat → UInt8) : Nat → UInt8 := fun i => if a ≤ i ∧ i < a + n then d (i - a) else f i

/-- byte i of a string. -/
def bAt (s : ByteArray) (i : Nat) : UInt8 := s.data.toList.getD i 0

theorem rowN_size (N : Nat) (f : Nat → UInt8) (o : Nat) : (rowN N f o).size = N := by simp [rowN]
theorem rowN_get (N : Nat) (f : Nat → UInt8) (o i : Nat) (h : i < N) : (rowN N f o)[i]? = some (Value.int .u8 ((f (o + i)).toNat : Int)) := by
  simp [rowN, h]
theorem rowN_congr {N : Nat} {f g : Nat → UInt8} {o o' : Nat} (h : ∀ i, i < N → f (o + i) = g (o' + i)) : rowN N f o = rowN N g o' := by
  unfold rowN
  congr 1
  apply List.map_congr_left
  intro i hi
  rw [h i (by simpa using hi)]
theorem pgRow_size (f : Nat → UInt8) (p : Nat) : (pgRow f p).size = 4096 := rowN_size _ _ _
theorem pgRow_get (f : Nat → UInt8) (p i : Nat) (h : i < 4096) : (pgRow f p)[i]? = some (Value.int .u8 ((f (p * 4096 + i)).toNat : Int)) := rowN_get _ _ _ _ h
theorem pgRow_congr {f g : Nat → UInt8} {p : Nat} (h : ∀ i, i < 4096 → f (p * 4096 + i) = g (p * 4096 + i)) : pgRow f p = pgRow g p := rowN_congr h

theorem over_zero (f : Nat → UInt8) (a : Nat) (d : Nat → UInt8) : over f a 0 d = f := by
  funext i
  unfold over
  rw [if_neg (by omega)]

theorem over_over (f : Nat → UInt8) (a n m : Nat) (d : Nat → UInt8) : over (over f a n d) (a + n) m (fun i => d (n + i)) = over f a (n + m) d := by
  funext i
  unfold over
  by_cases h1 : a + n ≤ i ∧ i < a + n + m
  · rw [if_pos h1, if_pos (by omega)]
    show d (n + (i - (a + n))) = d (i - a)
    rw [show n + (i - (a + n)) = i - a by omega]
  · rw [if_neg h1]
    by_cases h2 : a ≤ i ∧ i < a + n
    · rw [if_pos h2, if_pos (by omega)]
    · rw [if_neg h2, if_neg (by omega)]

theorem over_out (f : Nat → UInt8) (a n : Nat) (d : Nat → UInt8) (i : Nat) (h : i < a ∨ a + n ≤ i) : over f a n d i = f i := by
  unfold over
  rw [if_neg (by omega)]

/-- A row behind a copy into it. -/
theorem rowN_copy (N : Nat) (f : Nat → UInt8) (o a n : Nat) (s : ByteArray) (k : Nat) (hn : a + n ≤ N) (hs : k + n ≤ s.size) :
    ((rowN N f o).toList.take a ++ byteCells ((s.data.toList.drop k).take n) ++ (rowN N f o).toList.drop (a + n)).toArray = rowN N (over f (o + a) n (fun i => bAt s (k + i))) o := by
  have hsl : s.data.toList.length = s.size := (size_eq s).symm
  unfold rowN
  congr 1
  apply List.ext_getElem?
  intro j
  simp only [List.append_assoc]
  by_cases h1 : j < a
  · rw [List.getElem?_append_left (by simp; omega)]
    rw [List.getElem?_take_of_lt h1]
    simp [show j < N by omega]
    rw [over_out _ _ _ _ _ (by omega)]
  · by_cases h2 : j < a + n
    · rw [List.getElem?_append_right (by simp; omega)]
      rw [List.getElem?_append_left (by simp [byteCells]; omega)]
      have hq : j - (List.take a (List.map (fun i => Value.int IntKind.u8 ((f (o + i)).toNat : Int)) (List.range N))).length = j - a := by simp; omega
      rw [hq]
      have hb : bAt s (k + (j - a)) = s.data.toList[k + (j - a)]'(by omega) := by
        unfold bAt
        rw [List.getD_eq_getElem?_getD, List.getElem?_eq_getElem (by omega)]
        rfl
      have ho : over f (o + a) n (fun i => bAt s (k + i)) (o + j) = s.data.toList[k + (j - a)]'(by omega) := by
        unfold over
        rw [if_pos (by omega)]
        have e : o + j - (o + a) = j - a := by omega
        simp only [e]
        exact hb
      simp only [byteCells, List.getElem?_map, List.getElem?_take_of_lt (show j - a < n by omega), List.getElem?_drop]
      rw [List.getElem?_eq_getElem (by omega), List.getElem?_range (by omega)]
      simp only [Option.map_some, ho]
    · rw [List.getElem?_append_right (by simp; omega)]
      rw [List.getElem?_append_right (by simp [byteCells]; omega)]
      have hq : j - (List.take a (List.map (fun i => Value.int IntKind.u8 ((f (o + i)).toNat : Int)) (List.range N))).length - (byteCells (List.take n (List.drop k s.data.toList))).length = j - (a + n) := by
        simp [byteCells]
        omega
      rw [hq, List.getElem?_drop, show a + n + (j - (a + n)) = j by omega]
      by_cases h3 : j < N
      · simp [h3]
        rw [over_out _ _ _ _ _ (by omega)]
      · simp [h3]
theorem pgRow_copy (f : Nat → UInt8) (p a n : Nat) (s : ByteArray) (k : Nat) (hn : a + n ≤ 4096) (hs : k + n ≤ s.size) :
    ((pgRow f p).toList.take a ++ byteCells ((s.data.toList.drop k).take n) ++ (pgRow f p).toList.drop (a + n)).toArray = pgRow (over f (p * 4096 + a) n (fun i => bAt s (k + i))) p := rowN_copy _ _ _ _ _ _ _ hn hs
end Go.Proofs.Ytceihchkedjgbaa
