/- Join: what is needed of it. No condition. -/
import Derived.Test.YtopkbjfjncpjdaaDoorGenA
namespace Go.Proofs.YtopkbjfjncpjdaaDoor
open Go.RowKit
end Go.Proofs.YtopkbjfjncpjdaaDoor
