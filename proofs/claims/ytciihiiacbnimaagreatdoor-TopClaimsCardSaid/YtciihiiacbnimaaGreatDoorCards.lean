/-
  DERIVED. GIVEN WITH THE SEED: THE CARDS: each row of YtciihiiacbnimaaGreatDoorRows.lean that lists a variable, with what it lists TIED to the program's text (the seventh form; the later family's looks); each row that meets fmt, with fmt's text TOLD by the authors' own Lean function (tested against real Go, not proved from fmt's source: count such statements apart). THE CARD IS WHAT COUNTS. Prove the row's statement (the work); the ties are given (YtciihiiacbnimaaGreatDoorTie.lean); close each card by the builder's one call (the guide's Derived/Test/ToyasCard.lean, 'card_holds'). Laid BY PROGRAM, IN A SANDBOX (cutbox-door.mjs). By AI agents, Wed Nov 11 2026. No macro, syntax, notation, axiom, sorry.
-/
import Derived.Test.YtciihiiacbnimaaGreatDoorRows
import GoSem.ClaimSeven
namespace Go.Proofs.YtciihiiacbnimaaGreatDoor
namespace Rows

/-- THE TIED CARD OF 'foretelltop.TopClaims'. -/
def topClaimsCard : Claim7 := { stood := { row := topClaimsRow, standIns := [], harness := (true, "3310f1a8f0f961dd3725e8d0279efc005df3c4ce440ecce8ebe5af4239d74040"), looks := true }, kinds := [], alts := [], laidByText := true, laidKinds := [.data], laidTests := true, laidLooks := .later }
def TopClaimsCardSaid : Prop := Claim7.holds Tryz.pinned (.plain (OpenSpec.ofChange topClaimsSpec)) topClaimsCard

/-- THE SECOND FORM's CARD OF 'foretelltop.TopClaims'. -/
def topClaimsUptoCard : Claim7 := { stood := { row := topClaimsUptoRow, standIns := [], harness := (true, "3310f1a8f0f961dd3725e8d0279efc005df3c4ce440ecce8ebe5af4239d74040"), looks := true }, kinds := [], alts := [], laidByText := true, laidKinds := [.data], laidTests := true, laidLooks := .later }
def TopClaimsUptoCardSaid : Prop := Claim7.holds Tryz.pinned (.plain (OpenSpec.upto topClaimsSpec)) topClaimsUptoCard
end Rows
end Go.Proofs.YtciihiiacbnimaaGreatDoor
