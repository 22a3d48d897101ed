/- Several texts in one: MdF. No condition. -/
import Derived.Test.YtfcaomejbcjfgaaDoorKy15
import Derived.Test.YtfcaomejbcjfgaaDoorKy6
import Derived.Deep.QuietTactic
import Derived.BigQuiet
import Derived.Deep.Cut
namespace Go.Proofs.YtfcaomejbcjfgaaDoor
open Go.RowKit
end Go.Proofs.YtfcaomejbcjfgaaDoor
namespace Go.Proofs.YtfcaomejbcjfgaaDoor
open Go.RowKit
end Go.Proofs.YtfcaomejbcjfgaaDoor
