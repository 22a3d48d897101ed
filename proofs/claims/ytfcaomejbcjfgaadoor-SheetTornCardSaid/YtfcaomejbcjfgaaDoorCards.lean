/-
  DERIVED. GIVEN WITH THE SEED: THE CARDS: each row of YtfcaomejbcjfgaaDoorRows.lean that lists a variable, with what it lists TIED to the program's text (the seventh form; the later family's looks); each row that meets fmt, with fmt's text TOLD by the authors' own Lean function (tested against real Go, not proved from fmt's source: count such statements apart). THE CARD IS WHAT COUNTS. Prove the row's statement (the work); the ties are given (YtfcaomejbcjfgaaDoorTie.lean); close each card by the builder's one call (the guide's Derived/Test/ToyasCard.lean, 'card_holds'). Laid BY PROGRAM, IN A SANDBOX (cutbox-door.mjs). By AI agents, Wed Nov 11 2026. No macro, syntax, notation, axiom, sorry.
-/
import Derived.Test.YtfcaomejbcjfgaaDoorRows
import GoSem.ClaimSeven
namespace Go.Proofs.YtfcaomejbcjfgaaDoor
namespace Rows

/-- THE TIED CARD OF 'foretellkeep.SheetFixed'. -/
def sheetFixedCard : Claim7 := { stood := { row := sheetFixedRow, standIns := [], harness := (true, "18aebc0e66eaa31a1d459c3a1513c1a0d3618dc34c3faecfa660950f43090404"), looks := true }, kinds := [], alts := [], laidByText := true, laidKinds := [.data, .data, .data, .data, .sentinel, .sentinel, .data, .data, .pinned], laidTests := true, laidLooks := .later }
def SheetFixedCardSaid : Prop := Claim7.holds Tryd.pinned (.plain (OpenSpec.ofChange sheetFixedSpec)) sheetFixedCard

/-- THE TIED CARD OF 'foretellkeep.SheetTorn'. -/
def sheetTornCard : Claim7 := { stood := { row := sheetTornRow, standIns := [], harness := (true, "18aebc0e66eaa31a1d459c3a1513c1a0d3618dc34c3faecfa660950f43090404"), looks := true }, kinds := [], alts := [], laidByText := true, laidKinds := [.data, .data, .data, .data, .sentinel, .sentinel, .data, .data, .pinned], laidTests := true, laidLooks := .later }
def SheetTornCardSaid : Prop := Claim7.holds Tryd.pinned (.plain (OpenSpec.ofChange sheetTornSpec)) sheetTornCard

/-- THE SECOND FORM's CARD OF 'foretellkeep.SheetFixed'. -/
def sheetFixedUptoCard : Claim7 := { stood := { row := sheetFixedUptoRow, standIns := [], harness := (true, "18aebc0e66eaa31a1d459c3a1513c1a0d3618dc34c3faecfa660950f43090404"), looks := true }, kinds := [], alts := [], laidByText := true, laidKinds := [.data, .data, .data, .data, .sentinel, .sentinel, .data, .data, .pinned], laidTests := true, laidLooks := .later }
def SheetFixedUptoCardSaid : Prop := Claim7.holds Tryd.pinned (.plain (OpenSpec.upto sheetFixedSpec)) sheetFixedUptoCard

/-- THE SECOND FORM's CARD OF 'foretellkeep.SheetTorn'. -/
def sheetTornUptoCard : Claim7 := { stood := { row := sheetTornUptoRow, standIns := [], harness := (true, "18aebc0e66eaa31a1d459c3a1513c1a0d3618dc34c3faecfa660950f43090404"), looks := true }, kinds := [], alts := [], laidByText := true, laidKinds := [.data, .data, .data, .data, .sentinel, .sentinel, .data, .data, .pinned], laidTests := true, laidLooks := .later }
def SheetTornUptoCardSaid : Prop := Claim7.holds Tryd.pinned (.plain (OpenSpec.upto sheetTornSpec)) sheetTornUptoCard
end Rows
end Go.Proofs.YtfcaomejbcjfgaaDoor
