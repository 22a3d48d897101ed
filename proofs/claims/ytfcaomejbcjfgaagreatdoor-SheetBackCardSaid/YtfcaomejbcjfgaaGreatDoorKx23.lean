/- Several texts in one: MdN. No condition. -/
import Derived.Test.YtfcaomejbcjfgaaGreatDoorKx21
import Derived.Test.YtfcaomejbcjfgaaGreatDoorKx7
namespace Go.Proofs.YtfcaomejbcjfgaaGreatDoor
open Go.RowKit
end Go.Proofs.YtfcaomejbcjfgaaGreatDoor
namespace Go.Proofs.YtfcaomejbcjfgaaGreatDoor
open Go.RowKit
def Md.first (m : Md) : Int := codeL m.vars (m.vars.map (·.init)) 0
end Go.Proofs.YtfcaomejbcjfgaaGreatDoor
namespace Go.Proofs.YtfcaomejbcjfgaaGreatDoor
open Go.RowKit
end Go.Proofs.YtfcaomejbcjfgaaGreatDoor
