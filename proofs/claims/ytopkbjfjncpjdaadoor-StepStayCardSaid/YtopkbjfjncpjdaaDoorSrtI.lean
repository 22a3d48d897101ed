/- SrtI: what is needed of it. No condition. -/
import Derived.Test.YtopkbjfjncpjdaaDoorMem
import Derived.Test.YtopkbjfjncpjdaaDoorSortP
import Derived.Test.YtopkbjfjncpjdaaDoorShelf
import Derived.Sort.OwnSortedInts
namespace Go.Proofs.YtopkbjfjncpjdaaDoor
open Go.RowKit Go.Sort Go.Lib
theorem sortI_any (v : Value) (l : List Int) (base : Nat) (w : World) (h : w.ownsRow base 3 1 v l.length (l.map (.int .i64))) (hl : l.length ≤ 1048576) :
    Calls Tryd.prog 24 #[v] w fun e w' => e = .returned (.tuple #[]) ∧ w'.ownsRow base 3 1 v l.length ((sortL l).map (.int .i64)) ∧ w.grownBy w' v.ownBlock := by
  rcases h.2 with ⟨rfl, h0⟩ | ⟨g, cap, cur, rfl, hg, hc, hn, hcm, hcs, ht⟩
  · obtain rfl : l = [] := List.eq_nil_of_length_eq_zero h0
    refine (Tryd.slices_Sort_int_none none 0 w).mono ?_
    rintro e w' ⟨rfl, rfl⟩
    have e : sortL [] = [] := List.eq_nil_of_length_eq_zero (by rw [sortL_len]; rfl)
    rw [e]
    exact ⟨rfl, h, ⟨rfl, rfl, rfl, Nat.le_refl _, fun _ _ _ => rfl⟩⟩
  · refine (Tryd.slices_Sort_int g 0 cap l w (holds_of_blockI hc (by simpa using ht)) (Array.getElem?_eq_some_iff.1 hc).1 (by omega)).mono ?_
    rintro e w' ⟨rfl, n, os, rfl⟩
    exact ⟨rfl, ownsRow_sortedI (sortL_len l) hg hc hn hcm hcs, grownBy_sortedI _⟩
end Go.Proofs.YtopkbjfjncpjdaaDoor
