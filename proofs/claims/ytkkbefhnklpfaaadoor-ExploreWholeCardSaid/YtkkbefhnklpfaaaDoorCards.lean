/-
  DERIVED. GIVEN WITH THE SEED: THE CARDS: each row of YtkkbefhnklpfaaaDoorRows.lean that lists a variable, with what it lists TIED to the program's text (the seventh form; the later family's looks); each row that meets fmt, with fmt's text TOLD by the authors' own Lean function (tested against real Go, not proved from fmt's source: count such statements apart). THE CARD IS WHAT COUNTS. Prove the row's statement (the work); the ties are given (YtkkbefhnklpfaaaDoorTie.lean); close each card by the builder's one call (the guide's Derived/Test/ToyasCard.lean, 'card_holds'). Laid BY PROGRAM, IN A SANDBOX (cutbox-door.mjs). By AI agents, Wed Nov 11 2026. No macro, syntax, notation, axiom, sorry.
-/
import Derived.Test.YtkkbefhnklpfaaaDoorRows
import GoSem.ClaimSeven
namespace Go.Proofs.YtkkbefhnklpfaaaDoor
namespace Rows

/-- THE TIED CARD OF 'foretellkeep.ModelTwice'. -/
def modelTwiceCard : Claim7 := { stood := { row := modelTwiceRow, standIns := [], harness := (true, "c8dd8fc3b72b7b8671bd88a7d531816bf503ed2dc1ceb8ac1fadf0d03fc9cd35"), looks := true }, kinds := [], alts := [], laidByText := true, laidKinds := [.data], laidTests := true, laidLooks := .later }
def ModelTwiceCardSaid : Prop := Claim7.holds Tryd.pinned (.plain (OpenSpec.ofChange modelTwiceSpec)) modelTwiceCard

/-- THE TIED CARD OF 'foretellkeep.BeginApart'. -/
def beginApartCard : Claim7 := { stood := { row := beginApartRow, standIns := [], harness := (true, "c8dd8fc3b72b7b8671bd88a7d531816bf503ed2dc1ceb8ac1fadf0d03fc9cd35"), looks := true }, kinds := [], alts := [], laidByText := true, laidKinds := [.data], laidTests := true, laidLooks := .later }
def BeginApartCardSaid : Prop := Claim7.holds Tryd.pinned (.plain (OpenSpec.ofChange beginApartSpec)) beginApartCard

/-- THE TIED CARD OF 'foretellkeep.ReachClosed'. -/
def reachClosedCard : Claim7 := { stood := { row := reachClosedRow, standIns := [], harness := (true, "c8dd8fc3b72b7b8671bd88a7d531816bf503ed2dc1ceb8ac1fadf0d03fc9cd35"), looks := true }, kinds := [], alts := [], laidByText := true, laidKinds := [.data], laidTests := true, laidLooks := .later }
def ReachClosedCardSaid : Prop := Claim7.holds Tryd.pinned (.plain (OpenSpec.ofChange reachClosedSpec)) reachClosedCard

/-- THE TIED CARD OF 'foretellkeep.BehindNext'. -/
def behindNextCard : Claim7 := { stood := { row := behindNextRow, standIns := [], harness := (true, "c8dd8fc3b72b7b8671bd88a7d531816bf503ed2dc1ceb8ac1fadf0d03fc9cd35"), looks := true }, kinds := [], alts := [], laidByText := true, laidKinds := [.data], laidTests := true, laidLooks := .later }
def BehindNextCardSaid : Prop := Claim7.holds Tryd.pinned (.plain (OpenSpec.ofChange behindNextSpec)) behindNextCard

/-- THE TIED CARD OF 'foretellkeep.ExploreYes'. -/
def exploreYesCard : Claim7 := { stood := { row := exploreYesRow, standIns := [], harness := (true, "c8dd8fc3b72b7b8671bd88a7d531816bf503ed2dc1ceb8ac1fadf0d03fc9cd35"), looks := true }, kinds := [], alts := [], laidByText := true, laidKinds := [.data], laidTests := true, laidLooks := .later }
def ExploreYesCardSaid : Prop := Claim7.holds Tryd.pinned (.plain (OpenSpec.ofChange exploreYesSpec)) exploreYesCard

/-- THE TIED CARD OF 'foretellkeep.ExploreWhole'. -/
def exploreWholeCard : Claim7 := { stood := { row := exploreWholeRow, standIns := [], harness := (true, "c8dd8fc3b72b7b8671bd88a7d531816bf503ed2dc1ceb8ac1fadf0d03fc9cd35"), looks := true }, kinds := [], alts := [], laidByText := true, laidKinds := [.data], laidTests := true, laidLooks := .later }
def ExploreWholeCardSaid : Prop := Claim7.holds Tryd.pinned (.plain (OpenSpec.ofChange exploreWholeSpec)) exploreWholeCard

/-- THE SECOND FORM's CARD OF 'foretellkeep.ModelTwice'. -/
def modelTwiceUptoCard : Claim7 := { stood := { row := modelTwiceUptoRow, standIns := [], harness := (true, "c8dd8fc3b72b7b8671bd88a7d531816bf503ed2dc1ceb8ac1fadf0d03fc9cd35"), looks := true }, kinds := [], alts := [], laidByText := true, laidKinds := [.data], laidTests := true, laidLooks := .later }
def ModelTwiceUptoCardSaid : Prop := Claim7.holds Tryd.pinned (.plain (OpenSpec.upto modelTwiceSpec)) modelTwiceUptoCard

/-- THE SECOND FORM's CARD OF 'foretellkeep.BeginApart'. -/
def beginApartUptoCard : Claim7 := { stood := { row := beginApartUptoRow, standIns := [], harness := (true, "c8dd8fc3b72b7b8671bd88a7d531816bf503ed2dc1ceb8ac1fadf0d03fc9cd35"), looks := true }, kinds := [], alts := [], laidByText := true, laidKinds := [.data], laidTests := true, laidLooks := .later }
def BeginApartUptoCardSaid : Prop := Claim7.holds Tryd.pinned (.plain (OpenSpec.upto beginApartSpec)) beginApartUptoCard

/-- THE SECOND FORM's CARD OF 'foretellkeep.ReachClosed'. -/
def reachClosedUptoCard : Claim7 := { stood := { row := reachClosedUptoRow, standIns := [], harness := (true, "c8dd8fc3b72b7b8671bd88a7d531816bf503ed2dc1ceb8ac1fadf0d03fc9cd35"), looks := true }, kinds := [], alts := [], laidByText := true, laidKinds := [.data], laidTests := true, laidLooks := .later }
def ReachClosedUptoCardSaid : Prop := Claim7.holds Tryd.pinned (.plain (OpenSpec.upto reachClosedSpec)) reachClosedUptoCard

/-- THE SECOND FORM's CARD OF 'foretellkeep.BehindNext'. -/
def behindNextUptoCard : Claim7 := { stood := { row := behindNextUptoRow, standIns := [], harness := (true, "c8dd8fc3b72b7b8671bd88a7d531816bf503ed2dc1ceb8ac1fadf0d03fc9cd35"), looks := true }, kinds := [], alts := [], laidByText := true, laidKinds := [.data], laidTests := true, laidLooks := .later }
def BehindNextUptoCardSaid : Prop := Claim7.holds Tryd.pinned (.plain (OpenSpec.upto behindNextSpec)) behindNextUptoCard

/-- THE SECOND FORM's CARD OF 'foretellkeep.ExploreYes'. -/
def exploreYesUptoCard : Claim7 := { stood := { row := exploreYesUptoRow, standIns := [], harness := (true, "c8dd8fc3b72b7b8671bd88a7d531816bf503ed2dc1ceb8ac1fadf0d03fc9cd35"), looks := true }, kinds := [], alts := [], laidByText := true, laidKinds := [.data], laidTests := true, laidLooks := .later }
def ExploreYesUptoCardSaid : Prop := Claim7.holds Tryd.pinned (.plain (OpenSpec.upto exploreYesSpec)) exploreYesUptoCard

/-- THE SECOND FORM's CARD OF 'foretellkeep.ExploreWhole'. -/
def exploreWholeUptoCard : Claim7 := { stood := { row := exploreWholeUptoRow, standIns := [], harness := (true, "c8dd8fc3b72b7b8671bd88a7d531816bf503ed2dc1ceb8ac1fadf0d03fc9cd35"), looks := true }, kinds := [], alts := [], laidByText := true, laidKinds := [.data], laidTests := true, laidLooks := .later }
def ExploreWholeUptoCardSaid : Prop := Claim7.holds Tryd.pinned (.plain (OpenSpec.upto exploreWholeSpec)) exploreWholeUptoCard
end Rows
end Go.Proofs.YtkkbefhnklpfaaaDoor
