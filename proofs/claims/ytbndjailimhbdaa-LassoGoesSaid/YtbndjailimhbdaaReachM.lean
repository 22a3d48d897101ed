/- General words for marks on a graph's spots. -/
import Derived.Test.YtbndjailimhbdaaGrM
import Derived.Test.YtbndjailimhbdaaReach
import Derived.Deep.LoopGhost
namespace Go.Proofs.Ytbndjailimhbdaa
open Go.RowKit

theorem Try.slBoolsG : SlTy Try.prog 48 4 (.bool false) 1 1 := SlTy.mk' Try.underlying48 (by kernel_rfl) (by rfl) (by omega)

/-- What a search leaves: the marks. -/
def MarkPost (w : World) (n : Nat) (next : List (List Int)) (src : Nat → Prop) (v : Value) (w' : World) : Prop :=
  ∃ seen : List Bool, w'.ownsRow w.heap.size 4 1 v n (seen.map .bool) ∧ seen.length = n ∧ (∀ a : Nat, seen[a]? = some true ↔ ∃ s, src s ∧ Reach next s a) ∧ Ext w w'

theorem made_false (n : Nat) : (madeCells #[Value.bool false] n).toList = (List.replicate n false).map .bool := by rw [toList_madeCells_one, List.map_replicate]

theorem set_map_bool (l : List Bool) (i : Nat) (b : Bool) : (l.map Value.bool).set i (.bool b) = (l.set i b).map .bool := by rw [List.map_set]

end Go.Proofs.Ytbndjailimhbdaa
