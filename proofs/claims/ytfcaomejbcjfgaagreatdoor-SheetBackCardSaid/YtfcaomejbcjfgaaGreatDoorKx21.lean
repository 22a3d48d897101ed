/- Several texts in one: MdF. No condition. -/
import Derived.Test.YtfcaomejbcjfgaaGreatDoorKx15
import Derived.Test.YtfcaomejbcjfgaaGreatDoorKx6
import Derived.Deep.QuietTactic
import Derived.BigQuiet
import Derived.Deep.Cut
namespace Go.Proofs.YtfcaomejbcjfgaaGreatDoor
open Go.RowKit
end Go.Proofs.YtfcaomejbcjfgaaGreatDoor
namespace Go.Proofs.YtfcaomejbcjfgaaGreatDoor
open Go.RowKit
end Go.Proofs.YtfcaomejbcjfgaaGreatDoor
