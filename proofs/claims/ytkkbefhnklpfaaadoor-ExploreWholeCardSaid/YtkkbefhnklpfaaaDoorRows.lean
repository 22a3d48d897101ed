/-
  NARROWER THAN 'FOR EVERY INPUT', by the rows' own cells (each row's printed sentence says how): ModelTwice: laid · BeginApart: laid · ReachClosed: laid · BehindNext: laid · ExploreYes: laid · ExploreWhole: laid.
  DERIVED. THE GIVEN ROWS OF THIS SEAT. 6 by the template 'for every input the law returns true; each argument reads behind the call as it read before'; 0 by the template 'total and deterministic' (their statements: YtkkbefhnklpfaaaDoorTotals.lean).
  GIVEN WITH THE SEED: the statements are not yours to turn. If you find one false, say at which input.
  Laid BY PROGRAM, IN A SANDBOX (cutbox-rows.mjs): the forced cells as the released guide's own fill.sh prints them over the translation 9f9cbe401ce112dc… (all of the seat's roots in one cut). By AI agents, Wed Nov 11 2026. No macro, syntax, notation, axiom, sorry.
-/
import Derived.Test.YtkkbefhnklpfaaaDoorChecked
import GoSem.Claim
import GoSem.ClaimJoined
import GoSem.ClaimMapViews
import Derived.JoinedTies
import Derived.KernelRfl
namespace Go.Proofs.YtkkbefhnklpfaaaDoor
/- THE CELL 'sum', in the pinned program and in every row, IS THE sha256 OF THE DUMP (.gsa) THAT YtkkbefhnklpfaaaDoorProg.lean LOADS. Nothing in Lean hashes anything: it is a label: what it is worth is what the hold of that sum in a sandbox is worth. -/
noncomputable def Tryd.pinned : Pinned := { name := "ytkkbefhnklpfaaadoor", sum := "9f9cbe401ce112dc3a2d7c8cecd6693a8e6abc014a932f5c4fb8e21aa2cbef68", checked := Tryd.checked }
namespace Rows
def none {H : Type} : Left H := { results := [], args := [] }

/- WHAT THE LISTED PACKAGE-LEVEL VARIABLES READ AS WHEN THE CALL BEGINS. Each datum BY PROGRAM (the guide's laid-datum.mjs) off the statement by which the dump's own 'gosem.cut.vars' lays the variable. In a bare row this is a premise. The card (YtkkbefhnklpfaaaDoorCards.lean) ties it to the program's text. -/
def laid_foretell_polish_parts {H : Type} : DataW H := .agg [.lit (.int .i64 (-1)), .lit (.int .i64 0), .lit (.int .i64 0), .lit (.int .i64 2), .lit (.int .i64 2), .lit (.int .i64 2), .lit (.int .i64 2), .lit (.int .i64 2), .lit (.int .i64 2), .lit (.int .i64 2), .lit (.int .i64 1), .lit (.int .i64 0), .lit (.int .i64 0), .lit (.int .i64 0), .lit (.int .i64 1), .lit (.int .i64 2), .lit (.int .i64 2), .lit (.int .i64 1), .lit (.int .i64 1)]

/-- 'foretellkeep.ModelTwice': WHATEVER THE INPUT: true; the input reads as it did. -/
def modelTwiceSpec : ChangeSpec := { name := "modelTwice", fn := fun _ => fun
  | [d1, d2] => { results := [.lit (.bool true)], args := [d1, d2] }
  | _ => none }
def modelTwiceRow : OpenClaim := { program := "ytkkbefhnklpfaaadoor", sum := "9f9cbe401ce112dc3a2d7c8cecd6693a8e6abc014a932f5c4fb8e21aa2cbef68", func := "foretell/foretellkeep.ModelTwice", spec := "modelTwice", unfollowed := true, recurses := true, named := ["foretell/polish.parts"], plainKeys := false, apart := false, laid := [("foretell/polish.parts", laid_foretell_polish_parts)] }
def ModelTwiceSaid : Prop := modelTwiceRow.holds Tryd.pinned (OpenSpec.ofChange modelTwiceSpec)

/-- ITS FALSE NEIGHBOUR: 'it returns false'. Refute it at one input. -/
def modelTwiceWrong : ChangeSpec := { name := "modelTwice", fn := fun _ => fun
  | [d1, d2] => { results := [.lit (.bool false)], args := [d1, d2] }
  | _ => none }
def ModelTwiceWrongFalsely : Prop := modelTwiceRow.holds Tryd.pinned (OpenSpec.ofChange modelTwiceWrong)

/-- 'foretellkeep.BeginApart': WHATEVER THE INPUT: true; the input reads as it did. -/
def beginApartSpec : ChangeSpec := { name := "beginApart", fn := fun _ => fun
  | [d1, d2] => { results := [.lit (.bool true)], args := [d1, d2] }
  | _ => none }
def beginApartRow : OpenClaim := { program := "ytkkbefhnklpfaaadoor", sum := "9f9cbe401ce112dc3a2d7c8cecd6693a8e6abc014a932f5c4fb8e21aa2cbef68", func := "foretell/foretellkeep.BeginApart", spec := "beginApart", unfollowed := true, recurses := true, named := ["foretell/polish.parts"], plainKeys := false, apart := false, laid := [("foretell/polish.parts", laid_foretell_polish_parts)] }
def BeginApartSaid : Prop := beginApartRow.holds Tryd.pinned (OpenSpec.ofChange beginApartSpec)

/-- ITS FALSE NEIGHBOUR: 'it returns false'. Refute it at one input. -/
def beginApartWrong : ChangeSpec := { name := "beginApart", fn := fun _ => fun
  | [d1, d2] => { results := [.lit (.bool false)], args := [d1, d2] }
  | _ => none }
def BeginApartWrongFalsely : Prop := beginApartRow.holds Tryd.pinned (OpenSpec.ofChange beginApartWrong)

/-- 'foretellkeep.ReachClosed': WHATEVER THE INPUT: true; the input reads as it did. -/
def reachClosedSpec : ChangeSpec := { name := "reachClosed", fn := fun _ => fun
  | [d] => { results := [.lit (.bool true)], args := [d] }
  | _ => none }
def reachClosedRow : OpenClaim := { program := "ytkkbefhnklpfaaadoor", sum := "9f9cbe401ce112dc3a2d7c8cecd6693a8e6abc014a932f5c4fb8e21aa2cbef68", func := "foretell/foretellkeep.ReachClosed", spec := "reachClosed", unfollowed := true, recurses := true, named := ["foretell/polish.parts"], plainKeys := false, apart := false, laid := [("foretell/polish.parts", laid_foretell_polish_parts)] }
def ReachClosedSaid : Prop := reachClosedRow.holds Tryd.pinned (OpenSpec.ofChange reachClosedSpec)

/-- ITS FALSE NEIGHBOUR: 'it returns false'. Refute it at one input. -/
def reachClosedWrong : ChangeSpec := { name := "reachClosed", fn := fun _ => fun
  | [d] => { results := [.lit (.bool false)], args := [d] }
  | _ => none }
def ReachClosedWrongFalsely : Prop := reachClosedRow.holds Tryd.pinned (OpenSpec.ofChange reachClosedWrong)

/-- 'foretellkeep.BehindNext': WHATEVER THE INPUT: true; the input reads as it did. -/
def behindNextSpec : ChangeSpec := { name := "behindNext", fn := fun _ => fun
  | [d1, d2, d3] => { results := [.lit (.bool true)], args := [d1, d2, d3] }
  | _ => none }
def behindNextRow : OpenClaim := { program := "ytkkbefhnklpfaaadoor", sum := "9f9cbe401ce112dc3a2d7c8cecd6693a8e6abc014a932f5c4fb8e21aa2cbef68", func := "foretell/foretellkeep.BehindNext", spec := "behindNext", unfollowed := true, recurses := true, named := ["foretell/polish.parts"], plainKeys := false, apart := false, laid := [("foretell/polish.parts", laid_foretell_polish_parts)] }
def BehindNextSaid : Prop := behindNextRow.holds Tryd.pinned (OpenSpec.ofChange behindNextSpec)

/-- ITS FALSE NEIGHBOUR: 'it returns false'. Refute it at one input. -/
def behindNextWrong : ChangeSpec := { name := "behindNext", fn := fun _ => fun
  | [d1, d2, d3] => { results := [.lit (.bool false)], args := [d1, d2, d3] }
  | _ => none }
def BehindNextWrongFalsely : Prop := behindNextRow.holds Tryd.pinned (OpenSpec.ofChange behindNextWrong)

/-- 'foretellkeep.ExploreYes': WHATEVER THE INPUT: true; the input reads as it did. -/
def exploreYesSpec : ChangeSpec := { name := "exploreYes", fn := fun _ => fun
  | [d1, d2] => { results := [.lit (.bool true)], args := [d1, d2] }
  | _ => none }
def exploreYesRow : OpenClaim := { program := "ytkkbefhnklpfaaadoor", sum := "9f9cbe401ce112dc3a2d7c8cecd6693a8e6abc014a932f5c4fb8e21aa2cbef68", func := "foretell/foretellkeep.ExploreYes", spec := "exploreYes", unfollowed := true, recurses := true, named := ["foretell/polish.parts"], plainKeys := false, apart := false, laid := [("foretell/polish.parts", laid_foretell_polish_parts)] }
def ExploreYesSaid : Prop := exploreYesRow.holds Tryd.pinned (OpenSpec.ofChange exploreYesSpec)

/-- ITS FALSE NEIGHBOUR: 'it returns false'. Refute it at one input. -/
def exploreYesWrong : ChangeSpec := { name := "exploreYes", fn := fun _ => fun
  | [d1, d2] => { results := [.lit (.bool false)], args := [d1, d2] }
  | _ => none }
def ExploreYesWrongFalsely : Prop := exploreYesRow.holds Tryd.pinned (OpenSpec.ofChange exploreYesWrong)

/-- 'foretellkeep.ExploreWhole': WHATEVER THE INPUT: true; the input reads as it did. -/
def exploreWholeSpec : ChangeSpec := { name := "exploreWhole", fn := fun _ => fun
  | [d1, d2] => { results := [.lit (.bool true)], args := [d1, d2] }
  | _ => none }
def exploreWholeRow : OpenClaim := { program := "ytkkbefhnklpfaaadoor", sum := "9f9cbe401ce112dc3a2d7c8cecd6693a8e6abc014a932f5c4fb8e21aa2cbef68", func := "foretell/foretellkeep.ExploreWhole", spec := "exploreWhole", unfollowed := true, recurses := true, named := ["foretell/polish.parts"], plainKeys := false, apart := false, laid := [("foretell/polish.parts", laid_foretell_polish_parts)] }
def ExploreWholeSaid : Prop := exploreWholeRow.holds Tryd.pinned (OpenSpec.ofChange exploreWholeSpec)

/-- ITS FALSE NEIGHBOUR: 'it returns false'. Refute it at one input. -/
def exploreWholeWrong : ChangeSpec := { name := "exploreWhole", fn := fun _ => fun
  | [d1, d2] => { results := [.lit (.bool false)], args := [d1, d2] }
  | _ => none }
def ExploreWholeWrongFalsely : Prop := exploreWholeRow.holds Tryd.pinned (OpenSpec.ofChange exploreWholeWrong)

/- THE SECOND FORM. 'bulk': how many values and letters a reading holds, each counted each time it is reached (what is shared counts as often as it is met; a slice's spare places count too). A statement '..UptoSaid' is the law's where the arguments, and the package variables that the reading takes, are together of bulk at most 1048576: NARROWER than '..Said'. Prove '..Said' where nothing that the law and all that it calls make is longer than what came in: it says more and counts as full. Else prove '..UptoSaid'. A law counts once. -/
mutual
def uptoBulk {H : Type} : DataW H → Nat
  | .lit (.string bytes) => bytes.length + 1
  | .lit _ => 1
  | .nil => 1
  | .ptr d => uptoBulk d + 1
  | .slice elems spare => uptoBulkAll elems + uptoBulkAll spare + 1
  | .agg parts => uptoBulkAll parts + 1
  | .iface _ d => uptoBulk d + 1
  | .map entries => uptoBulkEntries entries + 1
  | .held _ => 1
def uptoBulkAll {H : Type} : List (DataW H) → Nat
  | [] => 0
  | d :: r => uptoBulk d + uptoBulkAll r
def uptoBulkEntries {H : Type} : List (Lit × DataW H) → Nat
  | [] => 0
  | x :: r => uptoBulkEntry x + uptoBulkEntries r
def uptoBulkEntry {H : Type} : Lit × DataW H → Nat
  | (.string bytes, d) => bytes.length + uptoBulk d + 1
  | (_, d) => uptoBulk d + 1
 end
def uptoSmall : (H : Type) → List (DataW H) → Bool := fun _ ds => decide (uptoBulkAll ds ≤ 1048576)
def OpenSpec.upto (s : _root_.Go.ChangeSpec) : _root_.Go.OpenSpec := { _root_.Go.OpenSpec.ofChange s with cond := some uptoSmall }

/-- 'foretellkeep.ModelTwice', WHERE WHAT IT READS IS OF BULK AT MOST 1048576: true; the input reads as it did. -/
def modelTwiceUptoRow : OpenClaim := { program := "ytkkbefhnklpfaaadoor", sum := "9f9cbe401ce112dc3a2d7c8cecd6693a8e6abc014a932f5c4fb8e21aa2cbef68", func := "foretell/foretellkeep.ModelTwice", spec := "modelTwice", unfollowed := true, recurses := true, named := ["foretell/polish.parts"], plainKeys := false, apart := false, laid := [("foretell/polish.parts", laid_foretell_polish_parts)], narrowed := true }
def ModelTwiceUptoSaid : Prop := modelTwiceUptoRow.holds Tryd.pinned (OpenSpec.upto modelTwiceSpec)

/-- 'foretellkeep.BeginApart', WHERE WHAT IT READS IS OF BULK AT MOST 1048576: true; the input reads as it did. -/
def beginApartUptoRow : OpenClaim := { program := "ytkkbefhnklpfaaadoor", sum := "9f9cbe401ce112dc3a2d7c8cecd6693a8e6abc014a932f5c4fb8e21aa2cbef68", func := "foretell/foretellkeep.BeginApart", spec := "beginApart", unfollowed := true, recurses := true, named := ["foretell/polish.parts"], plainKeys := false, apart := false, laid := [("foretell/polish.parts", laid_foretell_polish_parts)], narrowed := true }
def BeginApartUptoSaid : Prop := beginApartUptoRow.holds Tryd.pinned (OpenSpec.upto beginApartSpec)

/-- 'foretellkeep.ReachClosed', WHERE WHAT IT READS IS OF BULK AT MOST 1048576: true; the input reads as it did. -/
def reachClosedUptoRow : OpenClaim := { program := "ytkkbefhnklpfaaadoor", sum := "9f9cbe401ce112dc3a2d7c8cecd6693a8e6abc014a932f5c4fb8e21aa2cbef68", func := "foretell/foretellkeep.ReachClosed", spec := "reachClosed", unfollowed := true, recurses := true, named := ["foretell/polish.parts"], plainKeys := false, apart := false, laid := [("foretell/polish.parts", laid_foretell_polish_parts)], narrowed := true }
def ReachClosedUptoSaid : Prop := reachClosedUptoRow.holds Tryd.pinned (OpenSpec.upto reachClosedSpec)

/-- 'foretellkeep.BehindNext', WHERE WHAT IT READS IS OF BULK AT MOST 1048576: true; the input reads as it did. -/
def behindNextUptoRow : OpenClaim := { program := "ytkkbefhnklpfaaadoor", sum := "9f9cbe401ce112dc3a2d7c8cecd6693a8e6abc014a932f5c4fb8e21aa2cbef68", func := "foretell/foretellkeep.BehindNext", spec := "behindNext", unfollowed := true, recurses := true, named := ["foretell/polish.parts"], plainKeys := false, apart := false, laid := [("foretell/polish.parts", laid_foretell_polish_parts)], narrowed := true }
def BehindNextUptoSaid : Prop := behindNextUptoRow.holds Tryd.pinned (OpenSpec.upto behindNextSpec)

/-- 'foretellkeep.ExploreYes', WHERE WHAT IT READS IS OF BULK AT MOST 1048576: true; the input reads as it did. -/
def exploreYesUptoRow : OpenClaim := { program := "ytkkbefhnklpfaaadoor", sum := "9f9cbe401ce112dc3a2d7c8cecd6693a8e6abc014a932f5c4fb8e21aa2cbef68", func := "foretell/foretellkeep.ExploreYes", spec := "exploreYes", unfollowed := true, recurses := true, named := ["foretell/polish.parts"], plainKeys := false, apart := false, laid := [("foretell/polish.parts", laid_foretell_polish_parts)], narrowed := true }
def ExploreYesUptoSaid : Prop := exploreYesUptoRow.holds Tryd.pinned (OpenSpec.upto exploreYesSpec)

/-- 'foretellkeep.ExploreWhole', WHERE WHAT IT READS IS OF BULK AT MOST 1048576: true; the input reads as it did. -/
def exploreWholeUptoRow : OpenClaim := { program := "ytkkbefhnklpfaaadoor", sum := "9f9cbe401ce112dc3a2d7c8cecd6693a8e6abc014a932f5c4fb8e21aa2cbef68", func := "foretell/foretellkeep.ExploreWhole", spec := "exploreWhole", unfollowed := true, recurses := true, named := ["foretell/polish.parts"], plainKeys := false, apart := false, laid := [("foretell/polish.parts", laid_foretell_polish_parts)], narrowed := true }
def ExploreWholeUptoSaid : Prop := exploreWholeUptoRow.holds Tryd.pinned (OpenSpec.upto exploreWholeSpec)

end Rows
end Go.Proofs.YtkkbefhnklpfaaaDoor
