/- Bits: what is needed of it. No condition. -/
import Derived.Test.YthkiegaifkkegaaDoorBase
namespace Go.Proofs.YthkiegaifkkegaaDoor
open Go.RowKit
end Go.Proofs.YthkiegaifkkegaaDoor
