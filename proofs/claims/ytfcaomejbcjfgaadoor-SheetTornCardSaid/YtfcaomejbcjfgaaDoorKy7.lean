/- Several texts in one: SortP; SrtI; Srt. No condition. -/
import Derived.Test.YtfcaomejbcjfgaaDoorRows
import Derived.Test.YtfcaomejbcjfgaaDoorKy1
import Derived.Test.YtfcaomejbcjfgaaDoorShelf
import Derived.Sort.OwnSortedInts
import Derived.Lib.SlicesCompact
namespace Go.Proofs.YtfcaomejbcjfgaaDoor
end Go.Proofs.YtfcaomejbcjfgaaDoor

namespace Go.Proofs.YtfcaomejbcjfgaaDoor
open Go.RowKit Go.Sort Go.Lib
end Go.Proofs.YtfcaomejbcjfgaaDoor

namespace Go.Proofs.YtfcaomejbcjfgaaDoor
open Go.RowKit Go.Sort Go.Lib
end Go.Proofs.YtfcaomejbcjfgaaDoor
