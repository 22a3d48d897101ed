/-
  DERIVED. GIVEN WITH THE SEED: THE CARDS: each row of YtcmbehpilldlpaaDoorRows.lean that lists a variable, with what it lists TIED to the program's text (the seventh form; the later family's looks); each row that meets fmt, with fmt's text TOLD by the authors' own Lean function (tested against real Go, not proved from fmt's source: count such statements apart). THE CARD IS WHAT COUNTS. Prove the row's statement (the work); the ties are given (YtcmbehpilldlpaaDoorTie.lean); close each card by the builder's one call (the guide's Derived/Test/ToyasCard.lean, 'card_holds'). Laid BY PROGRAM, IN A SANDBOX (cutbox-door.mjs). By AI agents, Wed Nov 11 2026. No macro, syntax, notation, axiom, sorry.
-/
import Derived.Test.YtcmbehpilldlpaaDoorRows
import GoSem.ClaimSeven
namespace Go.Proofs.YtcmbehpilldlpaaDoor
namespace Rows

/-- THE TIED CARD OF 'foretellkeep.ModelTwice'. -/
def modelTwiceCard : Claim7 := { stood := { row := modelTwiceRow, standIns := [], harness := (true, "b8fca553d6bfb2ba13257c56cc630a009e6b6d6c281e5a5a7f3d0eb14f0a0fd2"), looks := true }, kinds := [], alts := [], laidByText := true, laidKinds := [.data], laidTests := true, laidLooks := .later }
def ModelTwiceCardSaid : Prop := Claim7.holds Tryd.pinned (.plain (OpenSpec.ofChange modelTwiceSpec)) modelTwiceCard

/-- THE TIED CARD OF 'foretellkeep.ModelSpan'. -/
def modelSpanCard : Claim7 := { stood := { row := modelSpanRow, standIns := [], harness := (true, "b8fca553d6bfb2ba13257c56cc630a009e6b6d6c281e5a5a7f3d0eb14f0a0fd2"), looks := true }, kinds := [], alts := [], laidByText := true, laidKinds := [.data], laidTests := true, laidLooks := .later }
def ModelSpanCardSaid : Prop := Claim7.holds Tryd.pinned (.plain (OpenSpec.ofChange modelSpanSpec)) modelSpanCard

/-- THE TIED CARD OF 'foretellkeep.CodeOrder'. -/
def codeOrderCard : Claim7 := { stood := { row := codeOrderRow, standIns := [], harness := (true, "b8fca553d6bfb2ba13257c56cc630a009e6b6d6c281e5a5a7f3d0eb14f0a0fd2"), looks := true }, kinds := [], alts := [], laidByText := true, laidKinds := [.data], laidTests := true, laidLooks := .later }
def CodeOrderCardSaid : Prop := Claim7.holds Tryd.pinned (.plain (OpenSpec.ofChange codeOrderSpec)) codeOrderCard

/-- THE TIED CARD OF 'foretellkeep.CodeBack'. -/
def codeBackCard : Claim7 := { stood := { row := codeBackRow, standIns := [], harness := (true, "b8fca553d6bfb2ba13257c56cc630a009e6b6d6c281e5a5a7f3d0eb14f0a0fd2"), looks := true }, kinds := [], alts := [], laidByText := true, laidKinds := [.data], laidTests := true, laidLooks := .later }
def CodeBackCardSaid : Prop := Claim7.holds Tryd.pinned (.plain (OpenSpec.ofChange codeBackSpec)) codeBackCard

/-- THE TIED CARD OF 'foretellkeep.CodeOut'. -/
def codeOutCard : Claim7 := { stood := { row := codeOutRow, standIns := [], harness := (true, "b8fca553d6bfb2ba13257c56cc630a009e6b6d6c281e5a5a7f3d0eb14f0a0fd2"), looks := true }, kinds := [], alts := [], laidByText := true, laidKinds := [.data], laidTests := true, laidLooks := .later }
def CodeOutCardSaid : Prop := Claim7.holds Tryd.pinned (.plain (OpenSpec.ofChange codeOutSpec)) codeOutCard

/-- THE TIED CARD OF 'foretellkeep.LetterSays'. -/
def letterSaysCard : Claim7 := { stood := { row := letterSaysRow, standIns := [], harness := (true, "b8fca553d6bfb2ba13257c56cc630a009e6b6d6c281e5a5a7f3d0eb14f0a0fd2"), looks := true }, kinds := [], alts := [], laidByText := true, laidKinds := [.data], laidTests := true, laidLooks := .later }
def LetterSaysCardSaid : Prop := Claim7.holds Tryd.pinned (.plain (OpenSpec.ofChange letterSaysSpec)) letterSaysCard

/-- THE TIED CARD OF 'foretellkeep.NextUp'. -/
def nextUpCard : Claim7 := { stood := { row := nextUpRow, standIns := [], harness := (true, "b8fca553d6bfb2ba13257c56cc630a009e6b6d6c281e5a5a7f3d0eb14f0a0fd2"), looks := true }, kinds := [], alts := [], laidByText := true, laidKinds := [.data], laidTests := true, laidLooks := .later }
def NextUpCardSaid : Prop := Claim7.holds Tryd.pinned (.plain (OpenSpec.ofChange nextUpSpec)) nextUpCard

/-- THE TIED CARD OF 'foretellkeep.StepTwice'. -/
def stepTwiceCard : Claim7 := { stood := { row := stepTwiceRow, standIns := [], harness := (true, "b8fca553d6bfb2ba13257c56cc630a009e6b6d6c281e5a5a7f3d0eb14f0a0fd2"), looks := true }, kinds := [], alts := [], laidByText := true, laidKinds := [.data], laidTests := true, laidLooks := .later }
def StepTwiceCardSaid : Prop := Claim7.holds Tryd.pinned (.plain (OpenSpec.ofChange stepTwiceSpec)) stepTwiceCard

/-- THE TIED CARD OF 'foretellkeep.NextAfter'. -/
def nextAfterCard : Claim7 := { stood := { row := nextAfterRow, standIns := [], harness := (true, "b8fca553d6bfb2ba13257c56cc630a009e6b6d6c281e5a5a7f3d0eb14f0a0fd2"), looks := true }, kinds := [], alts := [], laidByText := true, laidKinds := [.data], laidTests := true, laidLooks := .later }
def NextAfterCardSaid : Prop := Claim7.holds Tryd.pinned (.plain (OpenSpec.ofChange nextAfterSpec)) nextAfterCard

/-- THE TIED CARD OF 'foretellkeep.StepStay'. -/
def stepStayCard : Claim7 := { stood := { row := stepStayRow, standIns := [], harness := (true, "b8fca553d6bfb2ba13257c56cc630a009e6b6d6c281e5a5a7f3d0eb14f0a0fd2"), looks := true }, kinds := [], alts := [], laidByText := true, laidKinds := [.data], laidTests := true, laidLooks := .later }
def StepStayCardSaid : Prop := Claim7.holds Tryd.pinned (.plain (OpenSpec.ofChange stepStaySpec)) stepStayCard

/-- THE TIED CARD OF 'foretellkeep.ReachClosed'. -/
def reachClosedCard : Claim7 := { stood := { row := reachClosedRow, standIns := [], harness := (true, "b8fca553d6bfb2ba13257c56cc630a009e6b6d6c281e5a5a7f3d0eb14f0a0fd2"), looks := true }, kinds := [], alts := [], laidByText := true, laidKinds := [.data], laidTests := true, laidLooks := .later }
def ReachClosedCardSaid : Prop := Claim7.holds Tryd.pinned (.plain (OpenSpec.ofChange reachClosedSpec)) reachClosedCard

/-- THE SECOND FORM's CARD OF 'foretellkeep.ModelTwice'. -/
def modelTwiceUptoCard : Claim7 := { stood := { row := modelTwiceUptoRow, standIns := [], harness := (true, "b8fca553d6bfb2ba13257c56cc630a009e6b6d6c281e5a5a7f3d0eb14f0a0fd2"), looks := true }, kinds := [], alts := [], laidByText := true, laidKinds := [.data], laidTests := true, laidLooks := .later }
def ModelTwiceUptoCardSaid : Prop := Claim7.holds Tryd.pinned (.plain (OpenSpec.upto modelTwiceSpec)) modelTwiceUptoCard

/-- THE SECOND FORM's CARD OF 'foretellkeep.ModelSpan'. -/
def modelSpanUptoCard : Claim7 := { stood := { row := modelSpanUptoRow, standIns := [], harness := (true, "b8fca553d6bfb2ba13257c56cc630a009e6b6d6c281e5a5a7f3d0eb14f0a0fd2"), looks := true }, kinds := [], alts := [], laidByText := true, laidKinds := [.data], laidTests := true, laidLooks := .later }
def ModelSpanUptoCardSaid : Prop := Claim7.holds Tryd.pinned (.plain (OpenSpec.upto modelSpanSpec)) modelSpanUptoCard

/-- THE SECOND FORM's CARD OF 'foretellkeep.CodeOrder'. -/
def codeOrderUptoCard : Claim7 := { stood := { row := codeOrderUptoRow, standIns := [], harness := (true, "b8fca553d6bfb2ba13257c56cc630a009e6b6d6c281e5a5a7f3d0eb14f0a0fd2"), looks := true }, kinds := [], alts := [], laidByText := true, laidKinds := [.data], laidTests := true, laidLooks := .later }
def CodeOrderUptoCardSaid : Prop := Claim7.holds Tryd.pinned (.plain (OpenSpec.upto codeOrderSpec)) codeOrderUptoCard

/-- THE SECOND FORM's CARD OF 'foretellkeep.CodeBack'. -/
def codeBackUptoCard : Claim7 := { stood := { row := codeBackUptoRow, standIns := [], harness := (true, "b8fca553d6bfb2ba13257c56cc630a009e6b6d6c281e5a5a7f3d0eb14f0a0fd2"), looks := true }, kinds := [], alts := [], laidByText := true, laidKinds := [.data], laidTests := true, laidLooks := .later }
def CodeBackUptoCardSaid : Prop := Claim7.holds Tryd.pinned (.plain (OpenSpec.upto codeBackSpec)) codeBackUptoCard

/-- THE SECOND FORM's CARD OF 'foretellkeep.CodeOut'. -/
def codeOutUptoCard : Claim7 := { stood := { row := codeOutUptoRow, standIns := [], harness := (true, "b8fca553d6bfb2ba13257c56cc630a009e6b6d6c281e5a5a7f3d0eb14f0a0fd2"), looks := true }, kinds := [], alts := [], laidByText := true, laidKinds := [.data], laidTests := true, laidLooks := .later }
def CodeOutUptoCardSaid : Prop := Claim7.holds Tryd.pinned (.plain (OpenSpec.upto codeOutSpec)) codeOutUptoCard

/-- THE SECOND FORM's CARD OF 'foretellkeep.LetterSays'. -/
def letterSaysUptoCard : Claim7 := { stood := { row := letterSaysUptoRow, standIns := [], harness := (true, "b8fca553d6bfb2ba13257c56cc630a009e6b6d6c281e5a5a7f3d0eb14f0a0fd2"), looks := true }, kinds := [], alts := [], laidByText := true, laidKinds := [.data], laidTests := true, laidLooks := .later }
def LetterSaysUptoCardSaid : Prop := Claim7.holds Tryd.pinned (.plain (OpenSpec.upto letterSaysSpec)) letterSaysUptoCard

/-- THE SECOND FORM's CARD OF 'foretellkeep.NextUp'. -/
def nextUpUptoCard : Claim7 := { stood := { row := nextUpUptoRow, standIns := [], harness := (true, "b8fca553d6bfb2ba13257c56cc630a009e6b6d6c281e5a5a7f3d0eb14f0a0fd2"), looks := true }, kinds := [], alts := [], laidByText := true, laidKinds := [.data], laidTests := true, laidLooks := .later }
def NextUpUptoCardSaid : Prop := Claim7.holds Tryd.pinned (.plain (OpenSpec.upto nextUpSpec)) nextUpUptoCard

/-- THE SECOND FORM's CARD OF 'foretellkeep.StepTwice'. -/
def stepTwiceUptoCard : Claim7 := { stood := { row := stepTwiceUptoRow, standIns := [], harness := (true, "b8fca553d6bfb2ba13257c56cc630a009e6b6d6c281e5a5a7f3d0eb14f0a0fd2"), looks := true }, kinds := [], alts := [], laidByText := true, laidKinds := [.data], laidTests := true, laidLooks := .later }
def StepTwiceUptoCardSaid : Prop := Claim7.holds Tryd.pinned (.plain (OpenSpec.upto stepTwiceSpec)) stepTwiceUptoCard

/-- THE SECOND FORM's CARD OF 'foretellkeep.NextAfter'. -/
def nextAfterUptoCard : Claim7 := { stood := { row := nextAfterUptoRow, standIns := [], harness := (true, "b8fca553d6bfb2ba13257c56cc630a009e6b6d6c281e5a5a7f3d0eb14f0a0fd2"), looks := true }, kinds := [], alts := [], laidByText := true, laidKinds := [.data], laidTests := true, laidLooks := .later }
def NextAfterUptoCardSaid : Prop := Claim7.holds Tryd.pinned (.plain (OpenSpec.upto nextAfterSpec)) nextAfterUptoCard

/-- THE SECOND FORM's CARD OF 'foretellkeep.StepStay'. -/
def stepStayUptoCard : Claim7 := { stood := { row := stepStayUptoRow, standIns := [], harness := (true, "b8fca553d6bfb2ba13257c56cc630a009e6b6d6c281e5a5a7f3d0eb14f0a0fd2"), looks := true }, kinds := [], alts := [], laidByText := true, laidKinds := [.data], laidTests := true, laidLooks := .later }
def StepStayUptoCardSaid : Prop := Claim7.holds Tryd.pinned (.plain (OpenSpec.upto stepStaySpec)) stepStayUptoCard

/-- THE SECOND FORM's CARD OF 'foretellkeep.ReachClosed'. -/
def reachClosedUptoCard : Claim7 := { stood := { row := reachClosedUptoRow, standIns := [], harness := (true, "b8fca553d6bfb2ba13257c56cc630a009e6b6d6c281e5a5a7f3d0eb14f0a0fd2"), looks := true }, kinds := [], alts := [], laidByText := true, laidKinds := [.data], laidTests := true, laidLooks := .later }
def ReachClosedUptoCardSaid : Prop := Claim7.holds Tryd.pinned (.plain (OpenSpec.upto reachClosedSpec)) reachClosedUptoCard
end Rows
end Go.Proofs.YtcmbehpilldlpaaDoor
