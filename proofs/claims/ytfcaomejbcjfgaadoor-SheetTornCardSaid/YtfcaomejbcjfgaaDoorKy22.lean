/- Several texts in one: MdN. No condition. -/
import Derived.Test.YtfcaomejbcjfgaaDoorKy20
import Derived.Test.YtfcaomejbcjfgaaDoorKy7
namespace Go.Proofs.YtfcaomejbcjfgaaDoor
open Go.RowKit
end Go.Proofs.YtfcaomejbcjfgaaDoor
namespace Go.Proofs.YtfcaomejbcjfgaaDoor
open Go.RowKit
def Md.first (m : Md) : Int := codeL m.vars (m.vars.map (·.init)) 0
end Go.Proofs.YtfcaomejbcjfgaaDoor
namespace Go.Proofs.YtfcaomejbcjfgaaDoor
open Go.RowKit
end Go.Proofs.YtfcaomejbcjfgaaDoor
