/- Several texts in one: Shut. No condition. -/
import Derived.Test.YtfcaomejbcjfgaaDoorKy1
namespace Go.Proofs.YtfcaomejbcjfgaaDoor
open Go.RowKit
end Go.Proofs.YtfcaomejbcjfgaaDoor
