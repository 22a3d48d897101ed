/-
  DERIVED. GIVEN WITH THE SEED: THE CARDS: each row of YtffjhhpikgodiaaDoorRows.lean that lists a variable, with what it lists TIED to the program's text (the seventh form; the later family's looks); each row that meets fmt, with fmt's text TOLD by the authors' own Lean function (tested against real Go, not proved from fmt's source: count such statements apart). THE CARD IS WHAT COUNTS. Prove the row's statement (the work); the ties are given (YtffjhhpikgodiaaDoorTie.lean); close each card by the builder's one call (the guide's Derived/Test/ToyasCard.lean, 'card_holds'). Laid BY PROGRAM, IN A SANDBOX (cutbox-door.mjs). By AI agents, Wed Nov 11 2026. No macro, syntax, notation, axiom, sorry.
-/
import Derived.Test.YtffjhhpikgodiaaDoorRows
import GoSem.ClaimSeven
namespace Go.Proofs.YtffjhhpikgodiaaDoor
namespace Rows

/-- THE TIED CARD OF 'foretellkeep.TruthTurns'. -/
def truthTurnsCard : Claim7 := { stood := { row := truthTurnsRow, standIns := [], harness := (true, "2dac120fdf3445cc4857ff0946fd12803a2392dda229b951150a57a239af68cc"), looks := true }, kinds := [], alts := [], laidByText := true, laidKinds := [.data], laidTests := true, laidLooks := .later }
def TruthTurnsCardSaid : Prop := Claim7.holds Tryd.pinned (.plain (OpenSpec.ofChange truthTurnsSpec)) truthTurnsCard

/-- THE TIED CARD OF 'foretellkeep.MeetsAll'. -/
def meetsAllCard : Claim7 := { stood := { row := meetsAllRow, standIns := [], harness := (true, "2dac120fdf3445cc4857ff0946fd12803a2392dda229b951150a57a239af68cc"), looks := true }, kinds := [], alts := [], laidByText := true, laidKinds := [.data], laidTests := true, laidLooks := .later }
def MeetsAllCardSaid : Prop := Claim7.holds Tryd.pinned (.plain (OpenSpec.ofChange meetsAllSpec)) meetsAllCard

/-- THE TIED CARD OF 'foretellkeep.WordNow'. -/
def wordNowCard : Claim7 := { stood := { row := wordNowRow, standIns := [], harness := (true, "2dac120fdf3445cc4857ff0946fd12803a2392dda229b951150a57a239af68cc"), looks := true }, kinds := [], alts := [], laidByText := true, laidKinds := [.data], laidTests := true, laidLooks := .later }
def WordNowCardSaid : Prop := Claim7.holds Tryd.pinned (.plain (OpenSpec.ofChange wordNowSpec)) wordNowCard

/-- THE TIED CARD OF 'foretellkeep.WordLoop'. -/
def wordLoopCard : Claim7 := { stood := { row := wordLoopRow, standIns := [], harness := (true, "2dac120fdf3445cc4857ff0946fd12803a2392dda229b951150a57a239af68cc"), looks := true }, kinds := [], alts := [], laidByText := true, laidKinds := [.data], laidTests := true, laidLooks := .later }
def WordLoopCardSaid : Prop := Claim7.holds Tryd.pinned (.plain (OpenSpec.ofChange wordLoopSpec)) wordLoopCard

/-- THE TIED CARD OF 'foretellkeep.WordNot'. -/
def wordNotCard : Claim7 := { stood := { row := wordNotRow, standIns := [], harness := (true, "2dac120fdf3445cc4857ff0946fd12803a2392dda229b951150a57a239af68cc"), looks := true }, kinds := [], alts := [], laidByText := true, laidKinds := [.data], laidTests := true, laidLooks := .later }
def WordNotCardSaid : Prop := Claim7.holds Tryd.pinned (.plain (OpenSpec.ofChange wordNotSpec)) wordNotCard

/-- THE TIED CARD OF 'foretellkeep.WordDual'. -/
def wordDualCard : Claim7 := { stood := { row := wordDualRow, standIns := [], harness := (true, "2dac120fdf3445cc4857ff0946fd12803a2392dda229b951150a57a239af68cc"), looks := true }, kinds := [], alts := [], laidByText := true, laidKinds := [.data], laidTests := true, laidLooks := .later }
def WordDualCardSaid : Prop := Claim7.holds Tryd.pinned (.plain (OpenSpec.ofChange wordDualSpec)) wordDualCard

/-- THE TIED CARD OF 'foretellkeep.WordLonger'. -/
def wordLongerCard : Claim7 := { stood := { row := wordLongerRow, standIns := [], harness := (true, "2dac120fdf3445cc4857ff0946fd12803a2392dda229b951150a57a239af68cc"), looks := true }, kinds := [], alts := [], laidByText := true, laidKinds := [.data], laidTests := true, laidLooks := .later }
def WordLongerCardSaid : Prop := Claim7.holds Tryd.pinned (.plain (OpenSpec.ofChange wordLongerSpec)) wordLongerCard

/-- THE TIED CARD OF 'foretellkeep.WordShift'. -/
def wordShiftCard : Claim7 := { stood := { row := wordShiftRow, standIns := [], harness := (true, "2dac120fdf3445cc4857ff0946fd12803a2392dda229b951150a57a239af68cc"), looks := true }, kinds := [], alts := [], laidByText := true, laidKinds := [.data], laidTests := true, laidLooks := .later }
def WordShiftCardSaid : Prop := Claim7.holds Tryd.pinned (.plain (OpenSpec.ofChange wordShiftSpec)) wordShiftCard

/-- THE TIED CARD OF 'foretellkeep.WordSpread'. -/
def wordSpreadCard : Claim7 := { stood := { row := wordSpreadRow, standIns := [], harness := (true, "2dac120fdf3445cc4857ff0946fd12803a2392dda229b951150a57a239af68cc"), looks := true }, kinds := [], alts := [], laidByText := true, laidKinds := [.data], laidTests := true, laidLooks := .later }
def WordSpreadCardSaid : Prop := Claim7.holds Tryd.pinned (.plain (OpenSpec.ofChange wordSpreadSpec)) wordSpreadCard

/-- THE TIED CARD OF 'foretellkeep.WordNest'. -/
def wordNestCard : Claim7 := { stood := { row := wordNestRow, standIns := [], harness := (true, "2dac120fdf3445cc4857ff0946fd12803a2392dda229b951150a57a239af68cc"), looks := true }, kinds := [], alts := [], laidByText := true, laidKinds := [.data], laidTests := true, laidLooks := .later }
def WordNestCardSaid : Prop := Claim7.holds Tryd.pinned (.plain (OpenSpec.ofChange wordNestSpec)) wordNestCard

/-- THE TIED CARD OF 'foretellkeep.ClaimOnly'. -/
def claimOnlyCard : Claim7 := { stood := { row := claimOnlyRow, standIns := [], harness := (true, "2dac120fdf3445cc4857ff0946fd12803a2392dda229b951150a57a239af68cc"), looks := true }, kinds := [], alts := [], laidByText := true, laidKinds := [.data], laidTests := true, laidLooks := .later }
def ClaimOnlyCardSaid : Prop := Claim7.holds Tryd.pinned (.plain (OpenSpec.ofChange claimOnlySpec)) claimOnlyCard

/-- THE TIED CARD OF 'foretellkeep.ClaimStuck'. -/
def claimStuckCard : Claim7 := { stood := { row := claimStuckRow, standIns := [], harness := (true, "2dac120fdf3445cc4857ff0946fd12803a2392dda229b951150a57a239af68cc"), looks := true }, kinds := [], alts := [], laidByText := true, laidKinds := [.data], laidTests := true, laidLooks := .later }
def ClaimStuckCardSaid : Prop := Claim7.holds Tryd.pinned (.plain (OpenSpec.ofChange claimStuckSpec)) claimStuckCard

/-- THE TIED CARD OF 'foretellkeep.ClaimLine'. -/
def claimLineCard : Claim7 := { stood := { row := claimLineRow, standIns := [], harness := (true, "2dac120fdf3445cc4857ff0946fd12803a2392dda229b951150a57a239af68cc"), looks := true }, kinds := [], alts := [], laidByText := true, laidKinds := [.data], laidTests := true, laidLooks := .later }
def ClaimLineCardSaid : Prop := Claim7.holds Tryd.pinned (.plain (OpenSpec.ofChange claimLineSpec)) claimLineCard

/-- THE SECOND FORM's CARD OF 'foretellkeep.TruthTurns'. -/
def truthTurnsUptoCard : Claim7 := { stood := { row := truthTurnsUptoRow, standIns := [], harness := (true, "2dac120fdf3445cc4857ff0946fd12803a2392dda229b951150a57a239af68cc"), looks := true }, kinds := [], alts := [], laidByText := true, laidKinds := [.data], laidTests := true, laidLooks := .later }
def TruthTurnsUptoCardSaid : Prop := Claim7.holds Tryd.pinned (.plain (OpenSpec.upto truthTurnsSpec)) truthTurnsUptoCard

/-- THE SECOND FORM's CARD OF 'foretellkeep.MeetsAll'. -/
def meetsAllUptoCard : Claim7 := { stood := { row := meetsAllUptoRow, standIns := [], harness := (true, "2dac120fdf3445cc4857ff0946fd12803a2392dda229b951150a57a239af68cc"), looks := true }, kinds := [], alts := [], laidByText := true, laidKinds := [.data], laidTests := true, laidLooks := .later }
def MeetsAllUptoCardSaid : Prop := Claim7.holds Tryd.pinned (.plain (OpenSpec.upto meetsAllSpec)) meetsAllUptoCard

/-- THE SECOND FORM's CARD OF 'foretellkeep.WordNow'. -/
def wordNowUptoCard : Claim7 := { stood := { row := wordNowUptoRow, standIns := [], harness := (true, "2dac120fdf3445cc4857ff0946fd12803a2392dda229b951150a57a239af68cc"), looks := true }, kinds := [], alts := [], laidByText := true, laidKinds := [.data], laidTests := true, laidLooks := .later }
def WordNowUptoCardSaid : Prop := Claim7.holds Tryd.pinned (.plain (OpenSpec.upto wordNowSpec)) wordNowUptoCard

/-- THE SECOND FORM's CARD OF 'foretellkeep.WordLoop'. -/
def wordLoopUptoCard : Claim7 := { stood := { row := wordLoopUptoRow, standIns := [], harness := (true, "2dac120fdf3445cc4857ff0946fd12803a2392dda229b951150a57a239af68cc"), looks := true }, kinds := [], alts := [], laidByText := true, laidKinds := [.data], laidTests := true, laidLooks := .later }
def WordLoopUptoCardSaid : Prop := Claim7.holds Tryd.pinned (.plain (OpenSpec.upto wordLoopSpec)) wordLoopUptoCard

/-- THE SECOND FORM's CARD OF 'foretellkeep.WordNot'. -/
def wordNotUptoCard : Claim7 := { stood := { row := wordNotUptoRow, standIns := [], harness := (true, "2dac120fdf3445cc4857ff0946fd12803a2392dda229b951150a57a239af68cc"), looks := true }, kinds := [], alts := [], laidByText := true, laidKinds := [.data], laidTests := true, laidLooks := .later }
def WordNotUptoCardSaid : Prop := Claim7.holds Tryd.pinned (.plain (OpenSpec.upto wordNotSpec)) wordNotUptoCard

/-- THE SECOND FORM's CARD OF 'foretellkeep.WordDual'. -/
def wordDualUptoCard : Claim7 := { stood := { row := wordDualUptoRow, standIns := [], harness := (true, "2dac120fdf3445cc4857ff0946fd12803a2392dda229b951150a57a239af68cc"), looks := true }, kinds := [], alts := [], laidByText := true, laidKinds := [.data], laidTests := true, laidLooks := .later }
def WordDualUptoCardSaid : Prop := Claim7.holds Tryd.pinned (.plain (OpenSpec.upto wordDualSpec)) wordDualUptoCard

/-- THE SECOND FORM's CARD OF 'foretellkeep.WordLonger'. -/
def wordLongerUptoCard : Claim7 := { stood := { row := wordLongerUptoRow, standIns := [], harness := (true, "2dac120fdf3445cc4857ff0946fd12803a2392dda229b951150a57a239af68cc"), looks := true }, kinds := [], alts := [], laidByText := true, laidKinds := [.data], laidTests := true, laidLooks := .later }
def WordLongerUptoCardSaid : Prop := Claim7.holds Tryd.pinned (.plain (OpenSpec.upto wordLongerSpec)) wordLongerUptoCard

/-- THE SECOND FORM's CARD OF 'foretellkeep.WordShift'. -/
def wordShiftUptoCard : Claim7 := { stood := { row := wordShiftUptoRow, standIns := [], harness := (true, "2dac120fdf3445cc4857ff0946fd12803a2392dda229b951150a57a239af68cc"), looks := true }, kinds := [], alts := [], laidByText := true, laidKinds := [.data], laidTests := true, laidLooks := .later }
def WordShiftUptoCardSaid : Prop := Claim7.holds Tryd.pinned (.plain (OpenSpec.upto wordShiftSpec)) wordShiftUptoCard

/-- THE SECOND FORM's CARD OF 'foretellkeep.WordSpread'. -/
def wordSpreadUptoCard : Claim7 := { stood := { row := wordSpreadUptoRow, standIns := [], harness := (true, "2dac120fdf3445cc4857ff0946fd12803a2392dda229b951150a57a239af68cc"), looks := true }, kinds := [], alts := [], laidByText := true, laidKinds := [.data], laidTests := true, laidLooks := .later }
def WordSpreadUptoCardSaid : Prop := Claim7.holds Tryd.pinned (.plain (OpenSpec.upto wordSpreadSpec)) wordSpreadUptoCard

/-- THE SECOND FORM's CARD OF 'foretellkeep.WordNest'. -/
def wordNestUptoCard : Claim7 := { stood := { row := wordNestUptoRow, standIns := [], harness := (true, "2dac120fdf3445cc4857ff0946fd12803a2392dda229b951150a57a239af68cc"), looks := true }, kinds := [], alts := [], laidByText := true, laidKinds := [.data], laidTests := true, laidLooks := .later }
def WordNestUptoCardSaid : Prop := Claim7.holds Tryd.pinned (.plain (OpenSpec.upto wordNestSpec)) wordNestUptoCard

/-- THE SECOND FORM's CARD OF 'foretellkeep.ClaimOnly'. -/
def claimOnlyUptoCard : Claim7 := { stood := { row := claimOnlyUptoRow, standIns := [], harness := (true, "2dac120fdf3445cc4857ff0946fd12803a2392dda229b951150a57a239af68cc"), looks := true }, kinds := [], alts := [], laidByText := true, laidKinds := [.data], laidTests := true, laidLooks := .later }
def ClaimOnlyUptoCardSaid : Prop := Claim7.holds Tryd.pinned (.plain (OpenSpec.upto claimOnlySpec)) claimOnlyUptoCard

/-- THE SECOND FORM's CARD OF 'foretellkeep.ClaimStuck'. -/
def claimStuckUptoCard : Claim7 := { stood := { row := claimStuckUptoRow, standIns := [], harness := (true, "2dac120fdf3445cc4857ff0946fd12803a2392dda229b951150a57a239af68cc"), looks := true }, kinds := [], alts := [], laidByText := true, laidKinds := [.data], laidTests := true, laidLooks := .later }
def ClaimStuckUptoCardSaid : Prop := Claim7.holds Tryd.pinned (.plain (OpenSpec.upto claimStuckSpec)) claimStuckUptoCard

/-- THE SECOND FORM's CARD OF 'foretellkeep.ClaimLine'. -/
def claimLineUptoCard : Claim7 := { stood := { row := claimLineUptoRow, standIns := [], harness := (true, "2dac120fdf3445cc4857ff0946fd12803a2392dda229b951150a57a239af68cc"), looks := true }, kinds := [], alts := [], laidByText := true, laidKinds := [.data], laidTests := true, laidLooks := .later }
def ClaimLineUptoCardSaid : Prop := Claim7.holds Tryd.pinned (.plain (OpenSpec.upto claimLineSpec)) claimLineUptoCard
end Rows
end Go.Proofs.YtffjhhpikgodiaaDoor
