/- Several texts in one: Shut. No condition. -/
import Derived.Test.YtfcaomejbcjfgaaGreatDoorKx1
namespace Go.Proofs.YtfcaomejbcjfgaaGreatDoor
open Go.RowKit
structure Shut (p : Prop) : Prop where
  out : p
end Go.Proofs.YtfcaomejbcjfgaaGreatDoor
