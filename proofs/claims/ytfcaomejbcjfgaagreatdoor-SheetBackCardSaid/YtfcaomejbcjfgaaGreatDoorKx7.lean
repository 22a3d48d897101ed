/- Several texts in one: SortP; SrtI; Srt. No condition. -/
import Derived.Test.YtfcaomejbcjfgaaGreatDoorRows
import Derived.Test.YtfcaomejbcjfgaaGreatDoorKx1
import Derived.Test.YtfcaomejbcjfgaaGreatDoorShelf
import Derived.Sort.OwnSortedInts
import Derived.Lib.SlicesCompact
namespace Go.Proofs.YtfcaomejbcjfgaaGreatDoor
end Go.Proofs.YtfcaomejbcjfgaaGreatDoor

namespace Go.Proofs.YtfcaomejbcjfgaaGreatDoor
open Go.RowKit Go.Sort Go.Lib
end Go.Proofs.YtfcaomejbcjfgaaGreatDoor

namespace Go.Proofs.YtfcaomejbcjfgaaGreatDoor
open Go.RowKit Go.Sort Go.Lib
end Go.Proofs.YtfcaomejbcjfgaaGreatDoor
