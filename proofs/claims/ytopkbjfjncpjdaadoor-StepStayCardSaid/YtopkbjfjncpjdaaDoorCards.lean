/-
  DERIVED. GIVEN WITH THE SEED: THE CARDS: each row of YtopkbjfjncpjdaaDoorRows.lean that lists a variable, with what it lists TIED to the program's text (the seventh form; the later family's looks); each row that meets fmt, with fmt's text TOLD by the authors' own Lean function (tested against real Go, not proved from fmt's source: count such statements apart). THE CARD IS WHAT COUNTS. Prove the row's statement (the work); the ties are given (YtopkbjfjncpjdaaDoorTie.lean); close each card by the builder's one call (the guide's Derived/Test/ToyasCard.lean, 'card_holds'). Laid BY PROGRAM, IN A SANDBOX (cutbox-door.mjs). By AI agents, Wed Nov 11 2026. No macro, syntax, notation, axiom, sorry.
-/
import Derived.Test.YtopkbjfjncpjdaaDoorRows
import GoSem.ClaimSeven
namespace Go.Proofs.YtopkbjfjncpjdaaDoor
namespace Rows

/-- THE TIED CARD OF 'foretellkeep.StepStay'. -/
def stepStayCard : Claim7 := { stood := { row := stepStayRow, standIns := [], harness := (true, "0141f4c402ac4f5271caa7e051f84e24a733b9cb284d4904508ad15047df5eef"), looks := true }, kinds := [], alts := [], laidByText := true, laidKinds := [.data], laidTests := true, laidLooks := .later }
def StepStayCardSaid : Prop := Claim7.holds Tryd.pinned (.plain (OpenSpec.ofChange stepStaySpec)) stepStayCard

/-- THE SECOND FORM's CARD OF 'foretellkeep.StepStay'. -/
def stepStayUptoCard : Claim7 := { stood := { row := stepStayUptoRow, standIns := [], harness := (true, "0141f4c402ac4f5271caa7e051f84e24a733b9cb284d4904508ad15047df5eef"), looks := true }, kinds := [], alts := [], laidByText := true, laidKinds := [.data], laidTests := true, laidLooks := .later }
def StepStayUptoCardSaid : Prop := Claim7.holds Tryd.pinned (.plain (OpenSpec.upto stepStaySpec)) stepStayUptoCard
end Rows
end Go.Proofs.YtopkbjfjncpjdaaDoor
