/- What the walk of the law IpcOrder leans on: the line as the law keeps it, its search, the text of its loop. -/
import Derived.Test.YtceihchkedjgbaaIpcInv
import Derived.Test.YtceihchkedjgbaaPick
namespace Go.Proofs.Ytceihchkedjgbaa
open Go.RowKit Go.Lib

def tI (L : List Wt) : List Int := L.map (fun x => (x.thr : Int))
def labI (x : Wt) : Int := if x.how = 2 then (x.lab : Int) else -1
def aI (L : List Wt) : List Int := L.map labI
def GoodL (L : List Wt) : Prop := ∀ x, x ∈ L → (x.how = 2 ∨ x.how = 4) ∧ x.lab < 2000

theorem GoodL.erase {L : List Wt} (h : GoodL L) (k : Nat) : GoodL (L.eraseIdx k) := fun x hx => h x (List.mem_of_mem_eraseIdx hx)
theorem GoodL.snoc {L : List Wt} (h : GoodL L) {x : Wt} (hx : (x.how = 2 ∨ x.how = 4) ∧ x.lab < 2000) : GoodL (L ++ [x]) := fun y hy => by
  rcases List.mem_append.1 hy with h1 | h1
  · exact h y h1
  · rw [List.mem_singleton.1 h1]; exact hx

/-- Where t stands among the first j (-1: nowhere). -/
def atF (M : List Int) (t : Int) : Nat → Int
  | 0 => -1
  | j + 1 => if M.getD j 0 = t then (j : Int) else atF M t j

theorem atF_spec (M : List Int) (t : Int) : ∀ j, (atF M t j = -1 ∧ ∀ k, k < j → M.getD k 0 ≠ t) ∨ ∃ k, k < j ∧ atF M t j = (k : Int) ∧ M.getD k 0 = t
  | 0 => .inl ⟨rfl, fun k h => by omega⟩
  | j + 1 => by
    simp only [atF]
    split
    · rename_i h
      exact .inr ⟨j, by omega, rfl, h⟩
    · rename_i h
      rcases atF_spec M t j with ⟨a, b⟩ | ⟨k, a, b, c⟩
      · refine .inl ⟨a, fun k hk => ?_⟩
        by_cases e : k = j
        · rw [e]; exact h
        · exact b k (by omega)
      · exact .inr ⟨k, by omega, b, c⟩

/-- Where a thread waits, by the law's own search. -/
theorem at_said (L : List Wt) (t : Nat) : (atF (tI L) t (tI L).length = -1 ∧ t ∉ L.map Wt.thr) ∨ ∃ k, ∃ hk : k < L.length, atF (tI L) t (tI L).length = (k : Int) ∧ L[k].thr = t := by
  have hg : ∀ k (hk : k < L.length), (tI L).getD k 0 = (L[k].thr : Int) := fun k hk => by
    unfold tI
    rw [List.getD_eq_getElem?_getD, List.getElem?_map, List.getElem?_eq_getElem hk]
    rfl
  have hl : (tI L).length = L.length := by unfold tI; simp
  rcases atF_spec (tI L) t (tI L).length with ⟨a, b⟩ | ⟨k, a, b, c⟩
  · refine .inl ⟨a, fun hx => ?_⟩
    obtain ⟨x, hx, hxt⟩ := List.mem_map.1 hx
    obtain ⟨k, hk, rfl⟩ := List.mem_iff_getElem.1 hx
    have := b k (by omega)
    rw [hg k hk] at this
    omega
  · have hk : k < L.length := by omega
    rw [hg k hk] at c
    exact .inr ⟨k, hk, b, by omega⟩

/-- The text of the first loop. -/
def firstLoop : Code → Option Code
  | .loop c => some c
  | .seq a b => match firstLoop a with
    | some c => some c
    | none => firstLoop b
  | .block _ c => firstLoop c
  | .scope c => firstLoop c
  | .cond _ a b => match firstLoop a with
    | some c => some c
    | none => firstLoop b
  | _ => none
noncomputable def body : Code := ((Try.f6.body.bind firstLoop).getD .skip)
end Go.Proofs.Ytceihchkedjgbaa
