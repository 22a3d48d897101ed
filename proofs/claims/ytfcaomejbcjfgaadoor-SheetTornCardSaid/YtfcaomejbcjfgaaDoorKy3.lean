/- Several texts in one: Maps. No condition. -/
import Derived.Test.YtfcaomejbcjfgaaDoorKy1
import Derived.MapKept
namespace Go.Proofs.YtfcaomejbcjfgaaDoor
open Go.RowKit Go.MapKept
section
end
end Go.Proofs.YtfcaomejbcjfgaaDoor
