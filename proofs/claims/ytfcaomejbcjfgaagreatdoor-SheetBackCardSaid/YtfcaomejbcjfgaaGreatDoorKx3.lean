/- Several texts in one: Maps. No condition. -/
import Derived.Test.YtfcaomejbcjfgaaGreatDoorKx1
import Derived.MapKept
namespace Go.Proofs.YtfcaomejbcjfgaaGreatDoor
open Go.RowKit Go.MapKept
section
end
end Go.Proofs.YtfcaomejbcjfgaaGreatDoor
