/-
  DERIVED. GIVEN WITH THE SEED: THE CARDS: each row of YtbmimdnpchldlaaDoorRows.lean that lists a variable, with what it lists TIED to the program's text (the seventh form; the later family's looks); each row that meets fmt, with fmt's text TOLD by the authors' own Lean function (tested against real Go, not proved from fmt's source: count such statements apart). THE CARD IS WHAT COUNTS. Prove the row's statement (the work); the ties are given (YtbmimdnpchldlaaDoorTie.lean); close each card by the builder's one call (the guide's Derived/Test/ToyasCard.lean, 'card_holds'). Laid BY PROGRAM, IN A SANDBOX (cutbox-door.mjs). By AI agents, Wed Nov 11 2026. No macro, syntax, notation, axiom, sorry.
-/
import Derived.Test.YtbmimdnpchldlaaDoorRows
import GoSem.ClaimSeven
namespace Go.Proofs.YtbmimdnpchldlaaDoor
namespace Rows

/-- THE TIED CARD OF 'foretelltop.TopReach'. -/
def topReachCard : Claim7 := { stood := { row := topReachRow, standIns := [], harness := (true, "4550b0a36ee9a2a550d02b842495fd3a81107f523ac206a13a6bf7a62e701f22"), looks := true }, kinds := [], alts := [], laidByText := true, laidKinds := [.data], laidTests := true, laidLooks := .later }
def TopReachCardSaid : Prop := Claim7.holds Tryd.pinned (.plain (OpenSpec.ofChange topReachSpec)) topReachCard

/-- THE TIED CARD OF 'foretelltop.TopRing'. -/
def topRingCard : Claim7 := { stood := { row := topRingRow, standIns := [], harness := (true, "4550b0a36ee9a2a550d02b842495fd3a81107f523ac206a13a6bf7a62e701f22"), looks := true }, kinds := [], alts := [], laidByText := true, laidKinds := [.data], laidTests := true, laidLooks := .later }
def TopRingCardSaid : Prop := Claim7.holds Tryd.pinned (.plain (OpenSpec.ofChange topRingSpec)) topRingCard

/-- THE TIED CARD OF 'foretelltop.TopChoice'. -/
def topChoiceCard : Claim7 := { stood := { row := topChoiceRow, standIns := [], harness := (true, "4550b0a36ee9a2a550d02b842495fd3a81107f523ac206a13a6bf7a62e701f22"), looks := true }, kinds := [], alts := [], laidByText := true, laidKinds := [.data], laidTests := true, laidLooks := .later }
def TopChoiceCardSaid : Prop := Claim7.holds Tryd.pinned (.plain (OpenSpec.ofChange topChoiceSpec)) topChoiceCard

/-- THE SECOND FORM's CARD OF 'foretelltop.TopReach'. -/
def topReachUptoCard : Claim7 := { stood := { row := topReachUptoRow, standIns := [], harness := (true, "4550b0a36ee9a2a550d02b842495fd3a81107f523ac206a13a6bf7a62e701f22"), looks := true }, kinds := [], alts := [], laidByText := true, laidKinds := [.data], laidTests := true, laidLooks := .later }
def TopReachUptoCardSaid : Prop := Claim7.holds Tryd.pinned (.plain (OpenSpec.upto topReachSpec)) topReachUptoCard

/-- THE SECOND FORM's CARD OF 'foretelltop.TopRing'. -/
def topRingUptoCard : Claim7 := { stood := { row := topRingUptoRow, standIns := [], harness := (true, "4550b0a36ee9a2a550d02b842495fd3a81107f523ac206a13a6bf7a62e701f22"), looks := true }, kinds := [], alts := [], laidByText := true, laidKinds := [.data], laidTests := true, laidLooks := .later }
def TopRingUptoCardSaid : Prop := Claim7.holds Tryd.pinned (.plain (OpenSpec.upto topRingSpec)) topRingUptoCard

/-- THE SECOND FORM's CARD OF 'foretelltop.TopChoice'. -/
def topChoiceUptoCard : Claim7 := { stood := { row := topChoiceUptoRow, standIns := [], harness := (true, "4550b0a36ee9a2a550d02b842495fd3a81107f523ac206a13a6bf7a62e701f22"), looks := true }, kinds := [], alts := [], laidByText := true, laidKinds := [.data], laidTests := true, laidLooks := .later }
def TopChoiceUptoCardSaid : Prop := Claim7.holds Tryd.pinned (.plain (OpenSpec.upto topChoiceSpec)) topChoiceUptoCard
end Rows
end Go.Proofs.YtbmimdnpchldlaaDoor
