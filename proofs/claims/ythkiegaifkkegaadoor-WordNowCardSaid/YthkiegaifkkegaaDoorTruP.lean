/- TruP: what is needed of it. No condition. -/
import Derived.Test.YthkiegaifkkegaaDoorFormP
import Derived.Test.YthkiegaifkkegaaDoorTermB
namespace Go.Proofs.YthkiegaifkkegaaDoor
def secAt (es : List Int) (i : Nat) : Nat := (es.getD (i + 1) 0).toNat
end Go.Proofs.YthkiegaifkkegaaDoor
