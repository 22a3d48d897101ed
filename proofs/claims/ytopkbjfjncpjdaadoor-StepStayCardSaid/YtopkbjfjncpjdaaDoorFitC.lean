/- FitC: what is needed of it. No condition. -/
import Derived.Test.YtopkbjfjncpjdaaDoorRawT
import Derived.Test.YtopkbjfjncpjdaaDoorJoinT
namespace Go.Proofs.YtopkbjfjncpjdaaDoor
open Go.RowKit
structure Fit (t : Tm) (vars : Int) (n : Nat) (truth : Bool) : Prop where
  ok : t.ok
  typed : t.typed = true
  kind : mkK t.kind = truth
  good : t.good vars
  size : t.size ≤ n
theorem fit_num (raw : List Op2) (vars : Int) (h : vars ≤ 1000) : Fit (numO raw vars) vars 7 false := by
  obtain ⟨h1, h2, h3⟩ := numT_typed raw vars h 2 0
  exact ⟨numT_ok raw vars 2 0, h1, h2, h3, numT_two raw vars 0⟩
theorem fit_tru (raw : List Op2) (vars : Int) (h : vars ≤ 1000) : Fit (truO raw vars) vars 26 true := by
  obtain ⟨h1, h2, h3⟩ := truT_typed raw vars h 3 0
  exact ⟨truT_ok raw vars 3 0, h1, h2, h3, truT_small raw vars⟩
end Go.Proofs.YtopkbjfjncpjdaaDoor
