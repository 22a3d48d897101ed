/- Two rows of truths, place by place. No condition. -/
import Derived.Test.YtbmimdnpchldlaaGreatDoorKt16
namespace Go.Proofs.YtbmimdnpchldlaaGreatDoor
open Go.RowKit

theorem zip_at {α β γ : Type} {l : List α} {k : List β} {i : Nat} {x : α} {y : β} (f : α → β → γ) (hx : l[i]? = some x) (hy : k[i]? = some y) : (List.zipWith f l k)[i]? = some (f x y) := by
  rw [List.getElem?_zipWith, hx, hy]
theorem fillB_put {L : List Bool} {i : Nat} {x : Bool} (h : L[i]? = some x) : ((fillB L i).map Value.bool).set i (.bool x) = (fillB L (i + 1)).map Value.bool := by
  obtain ⟨hi, rfl⟩ := List.getElem?_eq_some_iff.1 h
  rw [set_mapB, fillB_step hi]

end Go.Proofs.YtbmimdnpchldlaaGreatDoor
