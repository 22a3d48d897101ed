/-
  DERIVED. GIVEN WITH THE SEED: THE CARDS: each row of YthkiegaifkkegaaDoorRows.lean that lists a variable, with what it lists TIED to the program's text (the seventh form; the later family's looks); each row that meets fmt, with fmt's text TOLD by the authors' own Lean function (tested against real Go, not proved from fmt's source: count such statements apart). THE CARD IS WHAT COUNTS. Prove the row's statement (the work); the ties are given (YthkiegaifkkegaaDoorTie.lean); close each card by the builder's one call (the guide's Derived/Test/ToyasCard.lean, 'card_holds'). Laid BY PROGRAM, IN A SANDBOX (cutbox-door.mjs). By AI agents, Wed Nov 11 2026. No macro, syntax, notation, axiom, sorry.
-/
import Derived.Test.YthkiegaifkkegaaDoorRows
import GoSem.ClaimSeven
namespace Go.Proofs.YthkiegaifkkegaaDoor
namespace Rows

/-- THE TIED CARD OF 'foretellkeep.WordNow'. -/
def wordNowCard : Claim7 := { stood := { row := wordNowRow, standIns := [], harness := (true, "dc38beb0f6b2318e3eaafd8481d7766fc51e6c55e2a28e07518650509433ec38"), looks := true }, kinds := [], alts := [], laidByText := true, laidKinds := [.data], laidTests := true, laidLooks := .later }
def WordNowCardSaid : Prop := Claim7.holds Tryd.pinned (.plain (OpenSpec.ofChange wordNowSpec)) wordNowCard

/-- THE TIED CARD OF 'foretellkeep.WordShift'. -/
def wordShiftCard : Claim7 := { stood := { row := wordShiftRow, standIns := [], harness := (true, "dc38beb0f6b2318e3eaafd8481d7766fc51e6c55e2a28e07518650509433ec38"), looks := true }, kinds := [], alts := [], laidByText := true, laidKinds := [.data], laidTests := true, laidLooks := .later }
def WordShiftCardSaid : Prop := Claim7.holds Tryd.pinned (.plain (OpenSpec.ofChange wordShiftSpec)) wordShiftCard

/-- THE TIED CARD OF 'foretellkeep.WordLonger'. -/
def wordLongerCard : Claim7 := { stood := { row := wordLongerRow, standIns := [], harness := (true, "dc38beb0f6b2318e3eaafd8481d7766fc51e6c55e2a28e07518650509433ec38"), looks := true }, kinds := [], alts := [], laidByText := true, laidKinds := [.data], laidTests := true, laidLooks := .later }
def WordLongerCardSaid : Prop := Claim7.holds Tryd.pinned (.plain (OpenSpec.ofChange wordLongerSpec)) wordLongerCard

/-- THE SECOND FORM's CARD OF 'foretellkeep.WordNow'. -/
def wordNowUptoCard : Claim7 := { stood := { row := wordNowUptoRow, standIns := [], harness := (true, "dc38beb0f6b2318e3eaafd8481d7766fc51e6c55e2a28e07518650509433ec38"), looks := true }, kinds := [], alts := [], laidByText := true, laidKinds := [.data], laidTests := true, laidLooks := .later }
def WordNowUptoCardSaid : Prop := Claim7.holds Tryd.pinned (.plain (OpenSpec.upto wordNowSpec)) wordNowUptoCard

/-- THE SECOND FORM's CARD OF 'foretellkeep.WordShift'. -/
def wordShiftUptoCard : Claim7 := { stood := { row := wordShiftUptoRow, standIns := [], harness := (true, "dc38beb0f6b2318e3eaafd8481d7766fc51e6c55e2a28e07518650509433ec38"), looks := true }, kinds := [], alts := [], laidByText := true, laidKinds := [.data], laidTests := true, laidLooks := .later }
def WordShiftUptoCardSaid : Prop := Claim7.holds Tryd.pinned (.plain (OpenSpec.upto wordShiftSpec)) wordShiftUptoCard

/-- THE SECOND FORM's CARD OF 'foretellkeep.WordLonger'. -/
def wordLongerUptoCard : Claim7 := { stood := { row := wordLongerUptoRow, standIns := [], harness := (true, "dc38beb0f6b2318e3eaafd8481d7766fc51e6c55e2a28e07518650509433ec38"), looks := true }, kinds := [], alts := [], laidByText := true, laidKinds := [.data], laidTests := true, laidLooks := .later }
def WordLongerUptoCardSaid : Prop := Claim7.holds Tryd.pinned (.plain (OpenSpec.upto wordLongerSpec)) wordLongerUptoCard
end Rows
end Go.Proofs.YthkiegaifkkegaaDoor
