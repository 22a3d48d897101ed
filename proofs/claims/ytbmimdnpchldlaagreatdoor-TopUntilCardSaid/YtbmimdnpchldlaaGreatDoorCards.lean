/-
  DERIVED. GIVEN WITH THE SEED: THE CARDS: each row of YtbmimdnpchldlaaGreatDoorRows.lean that lists a variable, with what it lists TIED to the program's text (the seventh form; the later family's looks); each row that meets fmt, with fmt's text TOLD by the authors' own Lean function (tested against real Go, not proved from fmt's source: count such statements apart). THE CARD IS WHAT COUNTS. Prove the row's statement (the work); the ties are given (YtbmimdnpchldlaaGreatDoorTie.lean); close each card by the builder's one call (the guide's Derived/Test/ToyasCard.lean, 'card_holds'). Laid BY PROGRAM, IN A SANDBOX (cutbox-door.mjs). By AI agents, Wed Nov 11 2026. No macro, syntax, notation, axiom, sorry.
-/
import Derived.Test.YtbmimdnpchldlaaGreatDoorRows
import GoSem.ClaimSeven
namespace Go.Proofs.YtbmimdnpchldlaaGreatDoor
namespace Rows

/-- THE TIED CARD OF 'foretelltop.TopClaims'. -/
def topClaimsCard : Claim7 := { stood := { row := topClaimsRow, standIns := [], harness := (true, "a29edb8382594ac1d46a273abfda8b2af352de22839e5a7937b7e7a769ca8231"), looks := true }, kinds := [], alts := [], laidByText := true, laidKinds := [.data], laidTests := true, laidLooks := .later }
def TopClaimsCardSaid : Prop := Claim7.holds Tryz.pinned (.plain (OpenSpec.ofChange topClaimsSpec)) topClaimsCard

/-- THE TIED CARD OF 'foretelltop.TopEver'. -/
def topEverCard : Claim7 := { stood := { row := topEverRow, standIns := [], harness := (true, "a29edb8382594ac1d46a273abfda8b2af352de22839e5a7937b7e7a769ca8231"), looks := true }, kinds := [], alts := [], laidByText := true, laidKinds := [.data], laidTests := true, laidLooks := .later }
def TopEverCardSaid : Prop := Claim7.holds Tryz.pinned (.plain (OpenSpec.ofChange topEverSpec)) topEverCard

/-- THE TIED CARD OF 'foretelltop.TopUntil'. -/
def topUntilCard : Claim7 := { stood := { row := topUntilRow, standIns := [], harness := (true, "a29edb8382594ac1d46a273abfda8b2af352de22839e5a7937b7e7a769ca8231"), looks := true }, kinds := [], alts := [], laidByText := true, laidKinds := [.data], laidTests := true, laidLooks := .later }
def TopUntilCardSaid : Prop := Claim7.holds Tryz.pinned (.plain (OpenSpec.ofChange topUntilSpec)) topUntilCard

/-- THE TIED CARD OF 'foretelltop.TopRelease'. -/
def topReleaseCard : Claim7 := { stood := { row := topReleaseRow, standIns := [], harness := (true, "a29edb8382594ac1d46a273abfda8b2af352de22839e5a7937b7e7a769ca8231"), looks := true }, kinds := [], alts := [], laidByText := true, laidKinds := [.data], laidTests := true, laidLooks := .later }
def TopReleaseCardSaid : Prop := Claim7.holds Tryz.pinned (.plain (OpenSpec.ofChange topReleaseSpec)) topReleaseCard

/-- THE TIED CARD OF 'foretelltop.TopAgain'. -/
def topAgainCard : Claim7 := { stood := { row := topAgainRow, standIns := [], harness := (true, "a29edb8382594ac1d46a273abfda8b2af352de22839e5a7937b7e7a769ca8231"), looks := true }, kinds := [], alts := [], laidByText := true, laidKinds := [.data], laidTests := true, laidLooks := .later }
def TopAgainCardSaid : Prop := Claim7.holds Tryz.pinned (.plain (OpenSpec.ofChange topAgainSpec)) topAgainCard

/-- THE TIED CARD OF 'foretelltop.TopSettles'. -/
def topSettlesCard : Claim7 := { stood := { row := topSettlesRow, standIns := [], harness := (true, "a29edb8382594ac1d46a273abfda8b2af352de22839e5a7937b7e7a769ca8231"), looks := true }, kinds := [], alts := [], laidByText := true, laidKinds := [.data], laidTests := true, laidLooks := .later }
def TopSettlesCardSaid : Prop := Claim7.holds Tryz.pinned (.plain (OpenSpec.ofChange topSettlesSpec)) topSettlesCard

/-- THE TIED CARD OF 'foretelltop.TopYes'. -/
def topYesCard : Claim7 := { stood := { row := topYesRow, standIns := [], harness := (true, "a29edb8382594ac1d46a273abfda8b2af352de22839e5a7937b7e7a769ca8231"), looks := true }, kinds := [], alts := [], laidByText := true, laidKinds := [.data], laidTests := true, laidLooks := .later }
def TopYesCardSaid : Prop := Claim7.holds Tryz.pinned (.plain (OpenSpec.ofChange topYesSpec)) topYesCard

/-- THE TIED CARD OF 'foretelltop.TopDuals'. -/
def topDualsCard : Claim7 := { stood := { row := topDualsRow, standIns := [], harness := (true, "a29edb8382594ac1d46a273abfda8b2af352de22839e5a7937b7e7a769ca8231"), looks := true }, kinds := [], alts := [], laidByText := true, laidKinds := [.data], laidTests := true, laidLooks := .later }
def TopDualsCardSaid : Prop := Claim7.holds Tryz.pinned (.plain (OpenSpec.ofChange topDualsSpec)) topDualsCard

/-- THE TIED CARD OF 'foretelltop.TopChain'. -/
def topChainCard : Claim7 := { stood := { row := topChainRow, standIns := [], harness := (true, "a29edb8382594ac1d46a273abfda8b2af352de22839e5a7937b7e7a769ca8231"), looks := true }, kinds := [], alts := [], laidByText := true, laidKinds := [.data], laidTests := true, laidLooks := .later }
def TopChainCardSaid : Prop := Claim7.holds Tryz.pinned (.plain (OpenSpec.ofChange topChainSpec)) topChainCard

/-- THE TIED CARD OF 'foretelltop.TopOrder'. -/
def topOrderCard : Claim7 := { stood := { row := topOrderRow, standIns := [], harness := (true, "a29edb8382594ac1d46a273abfda8b2af352de22839e5a7937b7e7a769ca8231"), looks := true }, kinds := [], alts := [], laidByText := true, laidKinds := [.data], laidTests := true, laidLooks := .later }
def TopOrderCardSaid : Prop := Claim7.holds Tryz.pinned (.plain (OpenSpec.ofChange topOrderSpec)) topOrderCard

/-- THE TIED CARD OF 'foretelltop.TopNames'. -/
def topNamesCard : Claim7 := { stood := { row := topNamesRow, standIns := [], harness := (true, "a29edb8382594ac1d46a273abfda8b2af352de22839e5a7937b7e7a769ca8231"), looks := true }, kinds := [], alts := [], laidByText := true, laidKinds := [.data], laidTests := true, laidLooks := .later }
def TopNamesCardSaid : Prop := Claim7.holds Tryz.pinned (.plain (OpenSpec.ofChange topNamesSpec)) topNamesCard

/-- THE TIED CARD OF 'foretelltop.TopMore'. -/
def topMoreCard : Claim7 := { stood := { row := topMoreRow, standIns := [], harness := (true, "a29edb8382594ac1d46a273abfda8b2af352de22839e5a7937b7e7a769ca8231"), looks := true }, kinds := [], alts := [], laidByText := true, laidKinds := [.data], laidTests := true, laidLooks := .later }
def TopMoreCardSaid : Prop := Claim7.holds Tryz.pinned (.plain (OpenSpec.ofChange topMoreSpec)) topMoreCard

/-- THE TIED CARD OF 'foretelltop.TopFair'. -/
def topFairCard : Claim7 := { stood := { row := topFairRow, standIns := [], harness := (true, "a29edb8382594ac1d46a273abfda8b2af352de22839e5a7937b7e7a769ca8231"), looks := true }, kinds := [], alts := [], laidByText := true, laidKinds := [.data], laidTests := true, laidLooks := .later }
def TopFairCardSaid : Prop := Claim7.holds Tryz.pinned (.plain (OpenSpec.ofChange topFairSpec)) topFairCard

/-- THE TIED CARD OF 'foretelltop.TopWeak'. -/
def topWeakCard : Claim7 := { stood := { row := topWeakRow, standIns := [], harness := (true, "a29edb8382594ac1d46a273abfda8b2af352de22839e5a7937b7e7a769ca8231"), looks := true }, kinds := [], alts := [], laidByText := true, laidKinds := [.data], laidTests := true, laidLooks := .later }
def TopWeakCardSaid : Prop := Claim7.holds Tryz.pinned (.plain (OpenSpec.ofChange topWeakSpec)) topWeakCard

/-- THE TIED CARD OF 'foretelltop.TopNest'. -/
def topNestCard : Claim7 := { stood := { row := topNestRow, standIns := [], harness := (true, "a29edb8382594ac1d46a273abfda8b2af352de22839e5a7937b7e7a769ca8231"), looks := true }, kinds := [], alts := [], laidByText := true, laidKinds := [.data], laidTests := true, laidLooks := .later }
def TopNestCardSaid : Prop := Claim7.holds Tryz.pinned (.plain (OpenSpec.ofChange topNestSpec)) topNestCard

/-- THE TIED CARD OF 'foretelltop.TopSplit'. -/
def topSplitCard : Claim7 := { stood := { row := topSplitRow, standIns := [], harness := (true, "a29edb8382594ac1d46a273abfda8b2af352de22839e5a7937b7e7a769ca8231"), looks := true }, kinds := [], alts := [], laidByText := true, laidKinds := [.data], laidTests := true, laidLooks := .later }
def TopSplitCardSaid : Prop := Claim7.holds Tryz.pinned (.plain (OpenSpec.ofChange topSplitSpec)) topSplitCard

/-- THE SECOND FORM's CARD OF 'foretelltop.TopClaims'. -/
def topClaimsUptoCard : Claim7 := { stood := { row := topClaimsUptoRow, standIns := [], harness := (true, "a29edb8382594ac1d46a273abfda8b2af352de22839e5a7937b7e7a769ca8231"), looks := true }, kinds := [], alts := [], laidByText := true, laidKinds := [.data], laidTests := true, laidLooks := .later }
def TopClaimsUptoCardSaid : Prop := Claim7.holds Tryz.pinned (.plain (OpenSpec.upto topClaimsSpec)) topClaimsUptoCard

/-- THE SECOND FORM's CARD OF 'foretelltop.TopEver'. -/
def topEverUptoCard : Claim7 := { stood := { row := topEverUptoRow, standIns := [], harness := (true, "a29edb8382594ac1d46a273abfda8b2af352de22839e5a7937b7e7a769ca8231"), looks := true }, kinds := [], alts := [], laidByText := true, laidKinds := [.data], laidTests := true, laidLooks := .later }
def TopEverUptoCardSaid : Prop := Claim7.holds Tryz.pinned (.plain (OpenSpec.upto topEverSpec)) topEverUptoCard

/-- THE SECOND FORM's CARD OF 'foretelltop.TopUntil'. -/
def topUntilUptoCard : Claim7 := { stood := { row := topUntilUptoRow, standIns := [], harness := (true, "a29edb8382594ac1d46a273abfda8b2af352de22839e5a7937b7e7a769ca8231"), looks := true }, kinds := [], alts := [], laidByText := true, laidKinds := [.data], laidTests := true, laidLooks := .later }
def TopUntilUptoCardSaid : Prop := Claim7.holds Tryz.pinned (.plain (OpenSpec.upto topUntilSpec)) topUntilUptoCard

/-- THE SECOND FORM's CARD OF 'foretelltop.TopRelease'. -/
def topReleaseUptoCard : Claim7 := { stood := { row := topReleaseUptoRow, standIns := [], harness := (true, "a29edb8382594ac1d46a273abfda8b2af352de22839e5a7937b7e7a769ca8231"), looks := true }, kinds := [], alts := [], laidByText := true, laidKinds := [.data], laidTests := true, laidLooks := .later }
def TopReleaseUptoCardSaid : Prop := Claim7.holds Tryz.pinned (.plain (OpenSpec.upto topReleaseSpec)) topReleaseUptoCard

/-- THE SECOND FORM's CARD OF 'foretelltop.TopAgain'. -/
def topAgainUptoCard : Claim7 := { stood := { row := topAgainUptoRow, standIns := [], harness := (true, "a29edb8382594ac1d46a273abfda8b2af352de22839e5a7937b7e7a769ca8231"), looks := true }, kinds := [], alts := [], laidByText := true, laidKinds := [.data], laidTests := true, laidLooks := .later }
def TopAgainUptoCardSaid : Prop := Claim7.holds Tryz.pinned (.plain (OpenSpec.upto topAgainSpec)) topAgainUptoCard

/-- THE SECOND FORM's CARD OF 'foretelltop.TopSettles'. -/
def topSettlesUptoCard : Claim7 := { stood := { row := topSettlesUptoRow, standIns := [], harness := (true, "a29edb8382594ac1d46a273abfda8b2af352de22839e5a7937b7e7a769ca8231"), looks := true }, kinds := [], alts := [], laidByText := true, laidKinds := [.data], laidTests := true, laidLooks := .later }
def TopSettlesUptoCardSaid : Prop := Claim7.holds Tryz.pinned (.plain (OpenSpec.upto topSettlesSpec)) topSettlesUptoCard

/-- THE SECOND FORM's CARD OF 'foretelltop.TopYes'. -/
def topYesUptoCard : Claim7 := { stood := { row := topYesUptoRow, standIns := [], harness := (true, "a29edb8382594ac1d46a273abfda8b2af352de22839e5a7937b7e7a769ca8231"), looks := true }, kinds := [], alts := [], laidByText := true, laidKinds := [.data], laidTests := true, laidLooks := .later }
def TopYesUptoCardSaid : Prop := Claim7.holds Tryz.pinned (.plain (OpenSpec.upto topYesSpec)) topYesUptoCard

/-- THE SECOND FORM's CARD OF 'foretelltop.TopDuals'. -/
def topDualsUptoCard : Claim7 := { stood := { row := topDualsUptoRow, standIns := [], harness := (true, "a29edb8382594ac1d46a273abfda8b2af352de22839e5a7937b7e7a769ca8231"), looks := true }, kinds := [], alts := [], laidByText := true, laidKinds := [.data], laidTests := true, laidLooks := .later }
def TopDualsUptoCardSaid : Prop := Claim7.holds Tryz.pinned (.plain (OpenSpec.upto topDualsSpec)) topDualsUptoCard

/-- THE SECOND FORM's CARD OF 'foretelltop.TopChain'. -/
def topChainUptoCard : Claim7 := { stood := { row := topChainUptoRow, standIns := [], harness := (true, "a29edb8382594ac1d46a273abfda8b2af352de22839e5a7937b7e7a769ca8231"), looks := true }, kinds := [], alts := [], laidByText := true, laidKinds := [.data], laidTests := true, laidLooks := .later }
def TopChainUptoCardSaid : Prop := Claim7.holds Tryz.pinned (.plain (OpenSpec.upto topChainSpec)) topChainUptoCard

/-- THE SECOND FORM's CARD OF 'foretelltop.TopOrder'. -/
def topOrderUptoCard : Claim7 := { stood := { row := topOrderUptoRow, standIns := [], harness := (true, "a29edb8382594ac1d46a273abfda8b2af352de22839e5a7937b7e7a769ca8231"), looks := true }, kinds := [], alts := [], laidByText := true, laidKinds := [.data], laidTests := true, laidLooks := .later }
def TopOrderUptoCardSaid : Prop := Claim7.holds Tryz.pinned (.plain (OpenSpec.upto topOrderSpec)) topOrderUptoCard

/-- THE SECOND FORM's CARD OF 'foretelltop.TopNames'. -/
def topNamesUptoCard : Claim7 := { stood := { row := topNamesUptoRow, standIns := [], harness := (true, "a29edb8382594ac1d46a273abfda8b2af352de22839e5a7937b7e7a769ca8231"), looks := true }, kinds := [], alts := [], laidByText := true, laidKinds := [.data], laidTests := true, laidLooks := .later }
def TopNamesUptoCardSaid : Prop := Claim7.holds Tryz.pinned (.plain (OpenSpec.upto topNamesSpec)) topNamesUptoCard

/-- THE SECOND FORM's CARD OF 'foretelltop.TopMore'. -/
def topMoreUptoCard : Claim7 := { stood := { row := topMoreUptoRow, standIns := [], harness := (true, "a29edb8382594ac1d46a273abfda8b2af352de22839e5a7937b7e7a769ca8231"), looks := true }, kinds := [], alts := [], laidByText := true, laidKinds := [.data], laidTests := true, laidLooks := .later }
def TopMoreUptoCardSaid : Prop := Claim7.holds Tryz.pinned (.plain (OpenSpec.upto topMoreSpec)) topMoreUptoCard

/-- THE SECOND FORM's CARD OF 'foretelltop.TopFair'. -/
def topFairUptoCard : Claim7 := { stood := { row := topFairUptoRow, standIns := [], harness := (true, "a29edb8382594ac1d46a273abfda8b2af352de22839e5a7937b7e7a769ca8231"), looks := true }, kinds := [], alts := [], laidByText := true, laidKinds := [.data], laidTests := true, laidLooks := .later }
def TopFairUptoCardSaid : Prop := Claim7.holds Tryz.pinned (.plain (OpenSpec.upto topFairSpec)) topFairUptoCard

/-- THE SECOND FORM's CARD OF 'foretelltop.TopWeak'. -/
def topWeakUptoCard : Claim7 := { stood := { row := topWeakUptoRow, standIns := [], harness := (true, "a29edb8382594ac1d46a273abfda8b2af352de22839e5a7937b7e7a769ca8231"), looks := true }, kinds := [], alts := [], laidByText := true, laidKinds := [.data], laidTests := true, laidLooks := .later }
def TopWeakUptoCardSaid : Prop := Claim7.holds Tryz.pinned (.plain (OpenSpec.upto topWeakSpec)) topWeakUptoCard

/-- THE SECOND FORM's CARD OF 'foretelltop.TopNest'. -/
def topNestUptoCard : Claim7 := { stood := { row := topNestUptoRow, standIns := [], harness := (true, "a29edb8382594ac1d46a273abfda8b2af352de22839e5a7937b7e7a769ca8231"), looks := true }, kinds := [], alts := [], laidByText := true, laidKinds := [.data], laidTests := true, laidLooks := .later }
def TopNestUptoCardSaid : Prop := Claim7.holds Tryz.pinned (.plain (OpenSpec.upto topNestSpec)) topNestUptoCard

/-- THE SECOND FORM's CARD OF 'foretelltop.TopSplit'. -/
def topSplitUptoCard : Claim7 := { stood := { row := topSplitUptoRow, standIns := [], harness := (true, "a29edb8382594ac1d46a273abfda8b2af352de22839e5a7937b7e7a769ca8231"), looks := true }, kinds := [], alts := [], laidByText := true, laidKinds := [.data], laidTests := true, laidLooks := .later }
def TopSplitUptoCardSaid : Prop := Claim7.holds Tryz.pinned (.plain (OpenSpec.upto topSplitSpec)) topSplitUptoCard
end Rows
end Go.Proofs.YtbmimdnpchldlaaGreatDoor
