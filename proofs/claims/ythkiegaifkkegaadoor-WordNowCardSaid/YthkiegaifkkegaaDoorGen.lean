/- Gen: what is needed of it. No condition. -/
import Derived.Test.YthkiegaifkkegaaDoorTerm
import Derived.Test.YthkiegaifkkegaaDoorPick
namespace Go.Proofs.YthkiegaifkkegaaDoor
def rawAt (raw : List Op2) (p : Nat) : Op2 := raw.getD p (0, 0)
end Go.Proofs.YthkiegaifkkegaaDoor
