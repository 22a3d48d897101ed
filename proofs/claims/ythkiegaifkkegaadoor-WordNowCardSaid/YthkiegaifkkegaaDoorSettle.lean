/- Settle: what is needed of it. No condition. -/
import Derived.Test.YthkiegaifkkegaaDoorWordB
import Derived.Test.YthkiegaifkkegaaDoorSettleP
namespace Go.Proofs.YthkiegaifkkegaaDoor
open Go.RowKit
def rowF (n : Nat) (r : Nat → Bool) : List Value := (List.range n).map fun i => .bool (r i)
theorem rowF_get {n : Nat} {r : Nat → Bool} {i : Nat} (h : i < n) : (rowF n r)[i]? = some (.bool (r i)) := by simp [rowF, h]
theorem rowF_len (n : Nat) (r : Nat → Bool) : (rowF n r).length = n := by simp [rowF]
theorem rowF_set {n : Nat} {r : Nat → Bool} {i : Nat} (v : Bool) : (rowF n r).set i (.bool v) = rowF n (updB r i v) := by
  apply List.ext_getElem?
  intro j
  rw [List.getElem?_set, rowF_len]
  by_cases hj : j < n
  · rw [rowF_get (r := updB r i v) hj]
    by_cases e : i = j
    · subst e
      rw [if_pos rfl, if_pos hj]
      show some (Value.bool v) = some (.bool (if i = i then v else r i))
      rw [if_pos rfl]
    · rw [if_neg e, rowF_get hj]
      show some (Value.bool (r j)) = some (.bool (if j = i then v else r j))
      rw [if_neg (fun h => e h.symm)]
  · rw [List.getElem?_eq_none (by rw [rowF_len]; omega), List.getElem?_eq_none (by rw [rowF_len]; omega)]
    split
    · split
      · omega
      · rfl
    · rfl
theorem rowF_cell {w : World} {base R n : Nat} {r : Nat → Bool} {i : Nat} (h : w.ownsRow base 4 1 (.slice (some ⟨R, 0, none⟩) n n) n (rowF n r)) (hi : i < n) : w.cell? ⟨R, i, none⟩ = some (.bool (r i)) := by
  have hl : i < (rowF n r).length := by rw [rowF_len]; exact hi
  refine (own_cellAt h (i := i) hl).trans ?_
  have := rowF_get (r := r) hi
  rw [List.getElem?_eq_getElem hl] at this
  exact this
theorem grown_st {w w' : World} {R i : Nat} {v : Value} (h : w.grownBy w' (some R)) : w.grownBy (w'.setCell ⟨R, i, none⟩ v) (some R) := by
  refine ⟨h.os, h.tape, h.output, by simpa using h.size, fun k hk hn => ?_⟩
  rw [Below.heap_setCell _ _ _ _ (fun e => hn (by rw [e]))]
  exact h.block k hk hn
end Go.Proofs.YthkiegaifkkegaaDoor
