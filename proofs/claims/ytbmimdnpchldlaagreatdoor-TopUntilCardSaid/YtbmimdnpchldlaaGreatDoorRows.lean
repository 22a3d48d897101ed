/-
  NARROWER THAN 'FOR EVERY INPUT', by the rows' own cells (each row's printed sentence says how): TopClaims: laid · TopEver: laid · TopUntil: laid · TopRelease: laid · TopAgain: laid · TopSettles: laid · TopYes: laid · TopDuals: laid · TopChain: laid · TopOrder: laid · TopNames: laid · TopMore: laid · TopFair: laid · TopWeak: laid · TopNest: laid · TopSplit: laid.
  DERIVED. THE GIVEN ROWS OF THIS SEAT. 16 by the template 'for every input the law returns true; each argument reads behind the call as it read before'; 0 by the template 'total and deterministic' (their statements: YtbmimdnpchldlaaGreatDoorTotals.lean).
  GIVEN WITH THE SEED: the statements are not yours to turn. If you find one false, say at which input.
  Laid BY PROGRAM, IN A SANDBOX (cutbox-rows.mjs): the forced cells as the released guide's own fill.sh prints them over the translation 4203a47223516abc… (all of the seat's roots in one cut). By AI agents, Wed Nov 11 2026. No macro, syntax, notation, axiom, sorry.
-/
import Derived.Test.YtbmimdnpchldlaaGreatDoorChecked
import GoSem.Claim
import GoSem.ClaimJoined
import GoSem.ClaimMapViews
import Derived.JoinedTies
import Derived.KernelRfl
namespace Go.Proofs.YtbmimdnpchldlaaGreatDoor
/- THE CELL 'sum', in the pinned program and in every row, IS THE sha256 OF THE DUMP (.gsa) THAT YtbmimdnpchldlaaGreatDoorProg.lean LOADS. Nothing in Lean hashes anything: it is a label: what it is worth is what the hold of that sum in a sandbox is worth. -/
noncomputable def Tryz.pinned : Pinned := { name := "ytbmimdnpchldlaagreatdoor", sum := "4203a47223516abc308f12fd9845436e9f9683021d42e03f27854e9c4bdd358e", checked := Tryz.checked }
namespace Rows
def none {H : Type} : Left H := { results := [], args := [] }

/- WHAT THE LISTED PACKAGE-LEVEL VARIABLES READ AS WHEN THE CALL BEGINS. Each datum BY PROGRAM (the guide's laid-datum.mjs) off the statement by which the dump's own 'gosem.cut.vars' lays the variable. In a bare row this is a premise. The card (YtbmimdnpchldlaaGreatDoorCards.lean) ties it to the program's text. -/
def laid_foretell_polish_parts {H : Type} : DataW H := .agg [.lit (.int .i64 (-1)), .lit (.int .i64 0), .lit (.int .i64 0), .lit (.int .i64 2), .lit (.int .i64 2), .lit (.int .i64 2), .lit (.int .i64 2), .lit (.int .i64 2), .lit (.int .i64 2), .lit (.int .i64 2), .lit (.int .i64 1), .lit (.int .i64 0), .lit (.int .i64 0), .lit (.int .i64 0), .lit (.int .i64 1), .lit (.int .i64 2), .lit (.int .i64 2), .lit (.int .i64 1), .lit (.int .i64 1)]

/-- 'foretelltop.TopClaims': WHATEVER THE INPUT: true; the input reads as it did. -/
def topClaimsSpec : ChangeSpec := { name := "topClaims", fn := fun _ => fun
  | [d1, d2, d3] => { results := [.lit (.bool true)], args := [d1, d2, d3] }
  | _ => none }
def topClaimsRow : OpenClaim := { program := "ytbmimdnpchldlaagreatdoor", sum := "4203a47223516abc308f12fd9845436e9f9683021d42e03f27854e9c4bdd358e", func := "foretell/foretelltop.TopClaims", spec := "topClaims", unfollowed := true, recurses := true, named := ["foretell/polish.parts"], plainKeys := false, apart := false, laid := [("foretell/polish.parts", laid_foretell_polish_parts)] }
def TopClaimsSaid : Prop := topClaimsRow.holds Tryz.pinned (OpenSpec.ofChange topClaimsSpec)

/-- ITS FALSE NEIGHBOUR: 'it returns false'. Refute it at one input. -/
def topClaimsWrong : ChangeSpec := { name := "topClaims", fn := fun _ => fun
  | [d1, d2, d3] => { results := [.lit (.bool false)], args := [d1, d2, d3] }
  | _ => none }
def TopClaimsWrongFalsely : Prop := topClaimsRow.holds Tryz.pinned (OpenSpec.ofChange topClaimsWrong)

/-- 'foretelltop.TopEver': WHATEVER THE INPUT: true; the input reads as it did. -/
def topEverSpec : ChangeSpec := { name := "topEver", fn := fun _ => fun
  | [d1, d2] => { results := [.lit (.bool true)], args := [d1, d2] }
  | _ => none }
def topEverRow : OpenClaim := { program := "ytbmimdnpchldlaagreatdoor", sum := "4203a47223516abc308f12fd9845436e9f9683021d42e03f27854e9c4bdd358e", func := "foretell/foretelltop.TopEver", spec := "topEver", unfollowed := true, recurses := true, named := ["foretell/polish.parts"], plainKeys := false, apart := false, laid := [("foretell/polish.parts", laid_foretell_polish_parts)] }
def TopEverSaid : Prop := topEverRow.holds Tryz.pinned (OpenSpec.ofChange topEverSpec)

/-- ITS FALSE NEIGHBOUR: 'it returns false'. Refute it at one input. -/
def topEverWrong : ChangeSpec := { name := "topEver", fn := fun _ => fun
  | [d1, d2] => { results := [.lit (.bool false)], args := [d1, d2] }
  | _ => none }
def TopEverWrongFalsely : Prop := topEverRow.holds Tryz.pinned (OpenSpec.ofChange topEverWrong)

/-- 'foretelltop.TopUntil': WHATEVER THE INPUT: true; the input reads as it did. -/
def topUntilSpec : ChangeSpec := { name := "topUntil", fn := fun _ => fun
  | [d1, d2, d3] => { results := [.lit (.bool true)], args := [d1, d2, d3] }
  | _ => none }
def topUntilRow : OpenClaim := { program := "ytbmimdnpchldlaagreatdoor", sum := "4203a47223516abc308f12fd9845436e9f9683021d42e03f27854e9c4bdd358e", func := "foretell/foretelltop.TopUntil", spec := "topUntil", unfollowed := true, recurses := true, named := ["foretell/polish.parts"], plainKeys := false, apart := false, laid := [("foretell/polish.parts", laid_foretell_polish_parts)] }
def TopUntilSaid : Prop := topUntilRow.holds Tryz.pinned (OpenSpec.ofChange topUntilSpec)

/-- ITS FALSE NEIGHBOUR: 'it returns false'. Refute it at one input. -/
def topUntilWrong : ChangeSpec := { name := "topUntil", fn := fun _ => fun
  | [d1, d2, d3] => { results := [.lit (.bool false)], args := [d1, d2, d3] }
  | _ => none }
def TopUntilWrongFalsely : Prop := topUntilRow.holds Tryz.pinned (OpenSpec.ofChange topUntilWrong)

/-- 'foretelltop.TopRelease': WHATEVER THE INPUT: true; the input reads as it did. -/
def topReleaseSpec : ChangeSpec := { name := "topRelease", fn := fun _ => fun
  | [d1, d2, d3] => { results := [.lit (.bool true)], args := [d1, d2, d3] }
  | _ => none }
def topReleaseRow : OpenClaim := { program := "ytbmimdnpchldlaagreatdoor", sum := "4203a47223516abc308f12fd9845436e9f9683021d42e03f27854e9c4bdd358e", func := "foretell/foretelltop.TopRelease", spec := "topRelease", unfollowed := true, recurses := true, named := ["foretell/polish.parts"], plainKeys := false, apart := false, laid := [("foretell/polish.parts", laid_foretell_polish_parts)] }
def TopReleaseSaid : Prop := topReleaseRow.holds Tryz.pinned (OpenSpec.ofChange topReleaseSpec)

/-- ITS FALSE NEIGHBOUR: 'it returns false'. Refute it at one input. -/
def topReleaseWrong : ChangeSpec := { name := "topRelease", fn := fun _ => fun
  | [d1, d2, d3] => { results := [.lit (.bool false)], args := [d1, d2, d3] }
  | _ => none }
def TopReleaseWrongFalsely : Prop := topReleaseRow.holds Tryz.pinned (OpenSpec.ofChange topReleaseWrong)

/-- 'foretelltop.TopAgain': WHATEVER THE INPUT: true; the input reads as it did. -/
def topAgainSpec : ChangeSpec := { name := "topAgain", fn := fun _ => fun
  | [d1, d2] => { results := [.lit (.bool true)], args := [d1, d2] }
  | _ => none }
def topAgainRow : OpenClaim := { program := "ytbmimdnpchldlaagreatdoor", sum := "4203a47223516abc308f12fd9845436e9f9683021d42e03f27854e9c4bdd358e", func := "foretell/foretelltop.TopAgain", spec := "topAgain", unfollowed := true, recurses := true, named := ["foretell/polish.parts"], plainKeys := false, apart := false, laid := [("foretell/polish.parts", laid_foretell_polish_parts)] }
def TopAgainSaid : Prop := topAgainRow.holds Tryz.pinned (OpenSpec.ofChange topAgainSpec)

/-- ITS FALSE NEIGHBOUR: 'it returns false'. Refute it at one input. -/
def topAgainWrong : ChangeSpec := { name := "topAgain", fn := fun _ => fun
  | [d1, d2] => { results := [.lit (.bool false)], args := [d1, d2] }
  | _ => none }
def TopAgainWrongFalsely : Prop := topAgainRow.holds Tryz.pinned (OpenSpec.ofChange topAgainWrong)

/-- 'foretelltop.TopSettles': WHATEVER THE INPUT: true; the input reads as it did. -/
def topSettlesSpec : ChangeSpec := { name := "topSettles", fn := fun _ => fun
  | [d1, d2] => { results := [.lit (.bool true)], args := [d1, d2] }
  | _ => none }
def topSettlesRow : OpenClaim := { program := "ytbmimdnpchldlaagreatdoor", sum := "4203a47223516abc308f12fd9845436e9f9683021d42e03f27854e9c4bdd358e", func := "foretell/foretelltop.TopSettles", spec := "topSettles", unfollowed := true, recurses := true, named := ["foretell/polish.parts"], plainKeys := false, apart := false, laid := [("foretell/polish.parts", laid_foretell_polish_parts)] }
def TopSettlesSaid : Prop := topSettlesRow.holds Tryz.pinned (OpenSpec.ofChange topSettlesSpec)

/-- ITS FALSE NEIGHBOUR: 'it returns false'. Refute it at one input. -/
def topSettlesWrong : ChangeSpec := { name := "topSettles", fn := fun _ => fun
  | [d1, d2] => { results := [.lit (.bool false)], args := [d1, d2] }
  | _ => none }
def TopSettlesWrongFalsely : Prop := topSettlesRow.holds Tryz.pinned (OpenSpec.ofChange topSettlesWrong)

/-- 'foretelltop.TopYes': WHATEVER THE INPUT: true; the input reads as it did. -/
def topYesSpec : ChangeSpec := { name := "topYes", fn := fun _ => fun
  | [d] => { results := [.lit (.bool true)], args := [d] }
  | _ => none }
def topYesRow : OpenClaim := { program := "ytbmimdnpchldlaagreatdoor", sum := "4203a47223516abc308f12fd9845436e9f9683021d42e03f27854e9c4bdd358e", func := "foretell/foretelltop.TopYes", spec := "topYes", unfollowed := true, recurses := true, named := ["foretell/polish.parts"], plainKeys := false, apart := false, laid := [("foretell/polish.parts", laid_foretell_polish_parts)] }
def TopYesSaid : Prop := topYesRow.holds Tryz.pinned (OpenSpec.ofChange topYesSpec)

/-- ITS FALSE NEIGHBOUR: 'it returns false'. Refute it at one input. -/
def topYesWrong : ChangeSpec := { name := "topYes", fn := fun _ => fun
  | [d] => { results := [.lit (.bool false)], args := [d] }
  | _ => none }
def TopYesWrongFalsely : Prop := topYesRow.holds Tryz.pinned (OpenSpec.ofChange topYesWrong)

/-- 'foretelltop.TopDuals': WHATEVER THE INPUT: true; the input reads as it did. -/
def topDualsSpec : ChangeSpec := { name := "topDuals", fn := fun _ => fun
  | [d1, d2, d3] => { results := [.lit (.bool true)], args := [d1, d2, d3] }
  | _ => none }
def topDualsRow : OpenClaim := { program := "ytbmimdnpchldlaagreatdoor", sum := "4203a47223516abc308f12fd9845436e9f9683021d42e03f27854e9c4bdd358e", func := "foretell/foretelltop.TopDuals", spec := "topDuals", unfollowed := true, recurses := true, named := ["foretell/polish.parts"], plainKeys := false, apart := false, laid := [("foretell/polish.parts", laid_foretell_polish_parts)] }
def TopDualsSaid : Prop := topDualsRow.holds Tryz.pinned (OpenSpec.ofChange topDualsSpec)

/-- ITS FALSE NEIGHBOUR: 'it returns false'. Refute it at one input. -/
def topDualsWrong : ChangeSpec := { name := "topDuals", fn := fun _ => fun
  | [d1, d2, d3] => { results := [.lit (.bool false)], args := [d1, d2, d3] }
  | _ => none }
def TopDualsWrongFalsely : Prop := topDualsRow.holds Tryz.pinned (OpenSpec.ofChange topDualsWrong)

/-- 'foretelltop.TopChain': WHATEVER THE INPUT: true; the input reads as it did. -/
def topChainSpec : ChangeSpec := { name := "topChain", fn := fun _ => fun
  | [d1, d2] => { results := [.lit (.bool true)], args := [d1, d2] }
  | _ => none }
def topChainRow : OpenClaim := { program := "ytbmimdnpchldlaagreatdoor", sum := "4203a47223516abc308f12fd9845436e9f9683021d42e03f27854e9c4bdd358e", func := "foretell/foretelltop.TopChain", spec := "topChain", unfollowed := true, recurses := true, named := ["foretell/polish.parts"], plainKeys := false, apart := false, laid := [("foretell/polish.parts", laid_foretell_polish_parts)] }
def TopChainSaid : Prop := topChainRow.holds Tryz.pinned (OpenSpec.ofChange topChainSpec)

/-- ITS FALSE NEIGHBOUR: 'it returns false'. Refute it at one input. -/
def topChainWrong : ChangeSpec := { name := "topChain", fn := fun _ => fun
  | [d1, d2] => { results := [.lit (.bool false)], args := [d1, d2] }
  | _ => none }
def TopChainWrongFalsely : Prop := topChainRow.holds Tryz.pinned (OpenSpec.ofChange topChainWrong)

/-- 'foretelltop.TopOrder': WHATEVER THE INPUT: true; the input reads as it did. -/
def topOrderSpec : ChangeSpec := { name := "topOrder", fn := fun _ => fun
  | [d1, d2, d3] => { results := [.lit (.bool true)], args := [d1, d2, d3] }
  | _ => none }
def topOrderRow : OpenClaim := { program := "ytbmimdnpchldlaagreatdoor", sum := "4203a47223516abc308f12fd9845436e9f9683021d42e03f27854e9c4bdd358e", func := "foretell/foretelltop.TopOrder", spec := "topOrder", unfollowed := true, recurses := true, named := ["foretell/polish.parts"], plainKeys := false, apart := false, laid := [("foretell/polish.parts", laid_foretell_polish_parts)] }
def TopOrderSaid : Prop := topOrderRow.holds Tryz.pinned (OpenSpec.ofChange topOrderSpec)

/-- ITS FALSE NEIGHBOUR: 'it returns false'. Refute it at one input. -/
def topOrderWrong : ChangeSpec := { name := "topOrder", fn := fun _ => fun
  | [d1, d2, d3] => { results := [.lit (.bool false)], args := [d1, d2, d3] }
  | _ => none }
def TopOrderWrongFalsely : Prop := topOrderRow.holds Tryz.pinned (OpenSpec.ofChange topOrderWrong)

/-- 'foretelltop.TopNames': WHATEVER THE INPUT: true; the input reads as it did. -/
def topNamesSpec : ChangeSpec := { name := "topNames", fn := fun _ => fun
  | [d1, d2, d3] => { results := [.lit (.bool true)], args := [d1, d2, d3] }
  | _ => none }
def topNamesRow : OpenClaim := { program := "ytbmimdnpchldlaagreatdoor", sum := "4203a47223516abc308f12fd9845436e9f9683021d42e03f27854e9c4bdd358e", func := "foretell/foretelltop.TopNames", spec := "topNames", unfollowed := true, recurses := true, named := ["foretell/polish.parts"], plainKeys := false, apart := false, laid := [("foretell/polish.parts", laid_foretell_polish_parts)] }
def TopNamesSaid : Prop := topNamesRow.holds Tryz.pinned (OpenSpec.ofChange topNamesSpec)

/-- ITS FALSE NEIGHBOUR: 'it returns false'. Refute it at one input. -/
def topNamesWrong : ChangeSpec := { name := "topNames", fn := fun _ => fun
  | [d1, d2, d3] => { results := [.lit (.bool false)], args := [d1, d2, d3] }
  | _ => none }
def TopNamesWrongFalsely : Prop := topNamesRow.holds Tryz.pinned (OpenSpec.ofChange topNamesWrong)

/-- 'foretelltop.TopMore': WHATEVER THE INPUT: true; the input reads as it did. -/
def topMoreSpec : ChangeSpec := { name := "topMore", fn := fun _ => fun
  | [d1, d2] => { results := [.lit (.bool true)], args := [d1, d2] }
  | _ => none }
def topMoreRow : OpenClaim := { program := "ytbmimdnpchldlaagreatdoor", sum := "4203a47223516abc308f12fd9845436e9f9683021d42e03f27854e9c4bdd358e", func := "foretell/foretelltop.TopMore", spec := "topMore", unfollowed := true, recurses := true, named := ["foretell/polish.parts"], plainKeys := false, apart := false, laid := [("foretell/polish.parts", laid_foretell_polish_parts)] }
def TopMoreSaid : Prop := topMoreRow.holds Tryz.pinned (OpenSpec.ofChange topMoreSpec)

/-- ITS FALSE NEIGHBOUR: 'it returns false'. Refute it at one input. -/
def topMoreWrong : ChangeSpec := { name := "topMore", fn := fun _ => fun
  | [d1, d2] => { results := [.lit (.bool false)], args := [d1, d2] }
  | _ => none }
def TopMoreWrongFalsely : Prop := topMoreRow.holds Tryz.pinned (OpenSpec.ofChange topMoreWrong)

/-- 'foretelltop.TopFair': WHATEVER THE INPUT: true; the input reads as it did. -/
def topFairSpec : ChangeSpec := { name := "topFair", fn := fun _ => fun
  | [d1, d2] => { results := [.lit (.bool true)], args := [d1, d2] }
  | _ => none }
def topFairRow : OpenClaim := { program := "ytbmimdnpchldlaagreatdoor", sum := "4203a47223516abc308f12fd9845436e9f9683021d42e03f27854e9c4bdd358e", func := "foretell/foretelltop.TopFair", spec := "topFair", unfollowed := true, recurses := true, named := ["foretell/polish.parts"], plainKeys := false, apart := false, laid := [("foretell/polish.parts", laid_foretell_polish_parts)] }
def TopFairSaid : Prop := topFairRow.holds Tryz.pinned (OpenSpec.ofChange topFairSpec)

/-- ITS FALSE NEIGHBOUR: 'it returns false'. Refute it at one input. -/
def topFairWrong : ChangeSpec := { name := "topFair", fn := fun _ => fun
  | [d1, d2] => { results := [.lit (.bool false)], args := [d1, d2] }
  | _ => none }
def TopFairWrongFalsely : Prop := topFairRow.holds Tryz.pinned (OpenSpec.ofChange topFairWrong)

/-- 'foretelltop.TopWeak': WHATEVER THE INPUT: true; the input reads as it did. -/
def topWeakSpec : ChangeSpec := { name := "topWeak", fn := fun _ => fun
  | [d1, d2, d3] => { results := [.lit (.bool true)], args := [d1, d2, d3] }
  | _ => none }
def topWeakRow : OpenClaim := { program := "ytbmimdnpchldlaagreatdoor", sum := "4203a47223516abc308f12fd9845436e9f9683021d42e03f27854e9c4bdd358e", func := "foretell/foretelltop.TopWeak", spec := "topWeak", unfollowed := true, recurses := true, named := ["foretell/polish.parts"], plainKeys := false, apart := false, laid := [("foretell/polish.parts", laid_foretell_polish_parts)] }
def TopWeakSaid : Prop := topWeakRow.holds Tryz.pinned (OpenSpec.ofChange topWeakSpec)

/-- ITS FALSE NEIGHBOUR: 'it returns false'. Refute it at one input. -/
def topWeakWrong : ChangeSpec := { name := "topWeak", fn := fun _ => fun
  | [d1, d2, d3] => { results := [.lit (.bool false)], args := [d1, d2, d3] }
  | _ => none }
def TopWeakWrongFalsely : Prop := topWeakRow.holds Tryz.pinned (OpenSpec.ofChange topWeakWrong)

/-- 'foretelltop.TopNest': WHATEVER THE INPUT: true; the input reads as it did. -/
def topNestSpec : ChangeSpec := { name := "topNest", fn := fun _ => fun
  | [d1, d2] => { results := [.lit (.bool true)], args := [d1, d2] }
  | _ => none }
def topNestRow : OpenClaim := { program := "ytbmimdnpchldlaagreatdoor", sum := "4203a47223516abc308f12fd9845436e9f9683021d42e03f27854e9c4bdd358e", func := "foretell/foretelltop.TopNest", spec := "topNest", unfollowed := true, recurses := true, named := ["foretell/polish.parts"], plainKeys := false, apart := false, laid := [("foretell/polish.parts", laid_foretell_polish_parts)] }
def TopNestSaid : Prop := topNestRow.holds Tryz.pinned (OpenSpec.ofChange topNestSpec)

/-- ITS FALSE NEIGHBOUR: 'it returns false'. Refute it at one input. -/
def topNestWrong : ChangeSpec := { name := "topNest", fn := fun _ => fun
  | [d1, d2] => { results := [.lit (.bool false)], args := [d1, d2] }
  | _ => none }
def TopNestWrongFalsely : Prop := topNestRow.holds Tryz.pinned (OpenSpec.ofChange topNestWrong)

/-- 'foretelltop.TopSplit': WHATEVER THE INPUT: true; the input reads as it did. -/
def topSplitSpec : ChangeSpec := { name := "topSplit", fn := fun _ => fun
  | [d1, d2, d3] => { results := [.lit (.bool true)], args := [d1, d2, d3] }
  | _ => none }
def topSplitRow : OpenClaim := { program := "ytbmimdnpchldlaagreatdoor", sum := "4203a47223516abc308f12fd9845436e9f9683021d42e03f27854e9c4bdd358e", func := "foretell/foretelltop.TopSplit", spec := "topSplit", unfollowed := true, recurses := true, named := ["foretell/polish.parts"], plainKeys := false, apart := false, laid := [("foretell/polish.parts", laid_foretell_polish_parts)] }
def TopSplitSaid : Prop := topSplitRow.holds Tryz.pinned (OpenSpec.ofChange topSplitSpec)

/-- ITS FALSE NEIGHBOUR: 'it returns false'. Refute it at one input. -/
def topSplitWrong : ChangeSpec := { name := "topSplit", fn := fun _ => fun
  | [d1, d2, d3] => { results := [.lit (.bool false)], args := [d1, d2, d3] }
  | _ => none }
def TopSplitWrongFalsely : Prop := topSplitRow.holds Tryz.pinned (OpenSpec.ofChange topSplitWrong)

/- THE SECOND FORM. 'bulk': how many values and letters a reading holds, each counted each time it is reached (what is shared counts as often as it is met; a slice's spare places count too). A statement '..UptoSaid' is the law's where the arguments, and the package variables that the reading takes, are together of bulk at most 1048576: NARROWER than '..Said'. Prove '..Said' where nothing that the law and all that it calls make is longer than what came in: it says more and counts as full. Else prove '..UptoSaid'. A law counts once. -/
mutual
def uptoBulk {H : Type} : DataW H → Nat
  | .lit (.string bytes) => bytes.length + 1
  | .lit _ => 1
  | .nil => 1
  | .ptr d => uptoBulk d + 1
  | .slice elems spare => uptoBulkAll elems + uptoBulkAll spare + 1
  | .agg parts => uptoBulkAll parts + 1
  | .iface _ d => uptoBulk d + 1
  | .map entries => uptoBulkEntries entries + 1
  | .held _ => 1
def uptoBulkAll {H : Type} : List (DataW H) → Nat
  | [] => 0
  | d :: r => uptoBulk d + uptoBulkAll r
def uptoBulkEntries {H : Type} : List (Lit × DataW H) → Nat
  | [] => 0
  | x :: r => uptoBulkEntry x + uptoBulkEntries r
def uptoBulkEntry {H : Type} : Lit × DataW H → Nat
  | (.string bytes, d) => bytes.length + uptoBulk d + 1
  | (_, d) => uptoBulk d + 1
 end
def uptoSmall : (H : Type) → List (DataW H) → Bool := fun _ ds => decide (uptoBulkAll ds ≤ 1048576)
def OpenSpec.upto (s : _root_.Go.ChangeSpec) : _root_.Go.OpenSpec := { _root_.Go.OpenSpec.ofChange s with cond := some uptoSmall }

/-- 'foretelltop.TopClaims', WHERE WHAT IT READS IS OF BULK AT MOST 1048576: true; the input reads as it did. -/
def topClaimsUptoRow : OpenClaim := { program := "ytbmimdnpchldlaagreatdoor", sum := "4203a47223516abc308f12fd9845436e9f9683021d42e03f27854e9c4bdd358e", func := "foretell/foretelltop.TopClaims", spec := "topClaims", unfollowed := true, recurses := true, named := ["foretell/polish.parts"], plainKeys := false, apart := false, laid := [("foretell/polish.parts", laid_foretell_polish_parts)], narrowed := true }
def TopClaimsUptoSaid : Prop := topClaimsUptoRow.holds Tryz.pinned (OpenSpec.upto topClaimsSpec)

/-- 'foretelltop.TopEver', WHERE WHAT IT READS IS OF BULK AT MOST 1048576: true; the input reads as it did. -/
def topEverUptoRow : OpenClaim := { program := "ytbmimdnpchldlaagreatdoor", sum := "4203a47223516abc308f12fd9845436e9f9683021d42e03f27854e9c4bdd358e", func := "foretell/foretelltop.TopEver", spec := "topEver", unfollowed := true, recurses := true, named := ["foretell/polish.parts"], plainKeys := false, apart := false, laid := [("foretell/polish.parts", laid_foretell_polish_parts)], narrowed := true }
def TopEverUptoSaid : Prop := topEverUptoRow.holds Tryz.pinned (OpenSpec.upto topEverSpec)

/-- 'foretelltop.TopUntil', WHERE WHAT IT READS IS OF BULK AT MOST 1048576: true; the input reads as it did. -/
def topUntilUptoRow : OpenClaim := { program := "ytbmimdnpchldlaagreatdoor", sum := "4203a47223516abc308f12fd9845436e9f9683021d42e03f27854e9c4bdd358e", func := "foretell/foretelltop.TopUntil", spec := "topUntil", unfollowed := true, recurses := true, named := ["foretell/polish.parts"], plainKeys := false, apart := false, laid := [("foretell/polish.parts", laid_foretell_polish_parts)], narrowed := true }
def TopUntilUptoSaid : Prop := topUntilUptoRow.holds Tryz.pinned (OpenSpec.upto topUntilSpec)

/-- 'foretelltop.TopRelease', WHERE WHAT IT READS IS OF BULK AT MOST 1048576: true; the input reads as it did. -/
def topReleaseUptoRow : OpenClaim := { program := "ytbmimdnpchldlaagreatdoor", sum := "4203a47223516abc308f12fd9845436e9f9683021d42e03f27854e9c4bdd358e", func := "foretell/foretelltop.TopRelease", spec := "topRelease", unfollowed := true, recurses := true, named := ["foretell/polish.parts"], plainKeys := false, apart := false, laid := [("foretell/polish.parts", laid_foretell_polish_parts)], narrowed := true }
def TopReleaseUptoSaid : Prop := topReleaseUptoRow.holds Tryz.pinned (OpenSpec.upto topReleaseSpec)

/-- 'foretelltop.TopAgain', WHERE WHAT IT READS IS OF BULK AT MOST 1048576: true; the input reads as it did. -/
def topAgainUptoRow : OpenClaim := { program := "ytbmimdnpchldlaagreatdoor", sum := "4203a47223516abc308f12fd9845436e9f9683021d42e03f27854e9c4bdd358e", func := "foretell/foretelltop.TopAgain", spec := "topAgain", unfollowed := true, recurses := true, named := ["foretell/polish.parts"], plainKeys := false, apart := false, laid := [("foretell/polish.parts", laid_foretell_polish_parts)], narrowed := true }
def TopAgainUptoSaid : Prop := topAgainUptoRow.holds Tryz.pinned (OpenSpec.upto topAgainSpec)

/-- 'foretelltop.TopSettles', WHERE WHAT IT READS IS OF BULK AT MOST 1048576: true; the input reads as it did. -/
def topSettlesUptoRow : OpenClaim := { program := "ytbmimdnpchldlaagreatdoor", sum := "4203a47223516abc308f12fd9845436e9f9683021d42e03f27854e9c4bdd358e", func := "foretell/foretelltop.TopSettles", spec := "topSettles", unfollowed := true, recurses := true, named := ["foretell/polish.parts"], plainKeys := false, apart := false, laid := [("foretell/polish.parts", laid_foretell_polish_parts)], narrowed := true }
def TopSettlesUptoSaid : Prop := topSettlesUptoRow.holds Tryz.pinned (OpenSpec.upto topSettlesSpec)

/-- 'foretelltop.TopYes', WHERE WHAT IT READS IS OF BULK AT MOST 1048576: true; the input reads as it did. -/
def topYesUptoRow : OpenClaim := { program := "ytbmimdnpchldlaagreatdoor", sum := "4203a47223516abc308f12fd9845436e9f9683021d42e03f27854e9c4bdd358e", func := "foretell/foretelltop.TopYes", spec := "topYes", unfollowed := true, recurses := true, named := ["foretell/polish.parts"], plainKeys := false, apart := false, laid := [("foretell/polish.parts", laid_foretell_polish_parts)], narrowed := true }
def TopYesUptoSaid : Prop := topYesUptoRow.holds Tryz.pinned (OpenSpec.upto topYesSpec)

/-- 'foretelltop.TopDuals', WHERE WHAT IT READS IS OF BULK AT MOST 1048576: true; the input reads as it did. -/
def topDualsUptoRow : OpenClaim := { program := "ytbmimdnpchldlaagreatdoor", sum := "4203a47223516abc308f12fd9845436e9f9683021d42e03f27854e9c4bdd358e", func := "foretell/foretelltop.TopDuals", spec := "topDuals", unfollowed := true, recurses := true, named := ["foretell/polish.parts"], plainKeys := false, apart := false, laid := [("foretell/polish.parts", laid_foretell_polish_parts)], narrowed := true }
def TopDualsUptoSaid : Prop := topDualsUptoRow.holds Tryz.pinned (OpenSpec.upto topDualsSpec)

/-- 'foretelltop.TopChain', WHERE WHAT IT READS IS OF BULK AT MOST 1048576: true; the input reads as it did. -/
def topChainUptoRow : OpenClaim := { program := "ytbmimdnpchldlaagreatdoor", sum := "4203a47223516abc308f12fd9845436e9f9683021d42e03f27854e9c4bdd358e", func := "foretell/foretelltop.TopChain", spec := "topChain", unfollowed := true, recurses := true, named := ["foretell/polish.parts"], plainKeys := false, apart := false, laid := [("foretell/polish.parts", laid_foretell_polish_parts)], narrowed := true }
def TopChainUptoSaid : Prop := topChainUptoRow.holds Tryz.pinned (OpenSpec.upto topChainSpec)

/-- 'foretelltop.TopOrder', WHERE WHAT IT READS IS OF BULK AT MOST 1048576: true; the input reads as it did. -/
def topOrderUptoRow : OpenClaim := { program := "ytbmimdnpchldlaagreatdoor", sum := "4203a47223516abc308f12fd9845436e9f9683021d42e03f27854e9c4bdd358e", func := "foretell/foretelltop.TopOrder", spec := "topOrder", unfollowed := true, recurses := true, named := ["foretell/polish.parts"], plainKeys := false, apart := false, laid := [("foretell/polish.parts", laid_foretell_polish_parts)], narrowed := true }
def TopOrderUptoSaid : Prop := topOrderUptoRow.holds Tryz.pinned (OpenSpec.upto topOrderSpec)

/-- 'foretelltop.TopNames', WHERE WHAT IT READS IS OF BULK AT MOST 1048576: true; the input reads as it did. -/
def topNamesUptoRow : OpenClaim := { program := "ytbmimdnpchldlaagreatdoor", sum := "4203a47223516abc308f12fd9845436e9f9683021d42e03f27854e9c4bdd358e", func := "foretell/foretelltop.TopNames", spec := "topNames", unfollowed := true, recurses := true, named := ["foretell/polish.parts"], plainKeys := false, apart := false, laid := [("foretell/polish.parts", laid_foretell_polish_parts)], narrowed := true }
def TopNamesUptoSaid : Prop := topNamesUptoRow.holds Tryz.pinned (OpenSpec.upto topNamesSpec)

/-- 'foretelltop.TopMore', WHERE WHAT IT READS IS OF BULK AT MOST 1048576: true; the input reads as it did. -/
def topMoreUptoRow : OpenClaim := { program := "ytbmimdnpchldlaagreatdoor", sum := "4203a47223516abc308f12fd9845436e9f9683021d42e03f27854e9c4bdd358e", func := "foretell/foretelltop.TopMore", spec := "topMore", unfollowed := true, recurses := true, named := ["foretell/polish.parts"], plainKeys := false, apart := false, laid := [("foretell/polish.parts", laid_foretell_polish_parts)], narrowed := true }
def TopMoreUptoSaid : Prop := topMoreUptoRow.holds Tryz.pinned (OpenSpec.upto topMoreSpec)

/-- 'foretelltop.TopFair', WHERE WHAT IT READS IS OF BULK AT MOST 1048576: true; the input reads as it did. -/
def topFairUptoRow : OpenClaim := { program := "ytbmimdnpchldlaagreatdoor", sum := "4203a47223516abc308f12fd9845436e9f9683021d42e03f27854e9c4bdd358e", func := "foretell/foretelltop.TopFair", spec := "topFair", unfollowed := true, recurses := true, named := ["foretell/polish.parts"], plainKeys := false, apart := false, laid := [("foretell/polish.parts", laid_foretell_polish_parts)], narrowed := true }
def TopFairUptoSaid : Prop := topFairUptoRow.holds Tryz.pinned (OpenSpec.upto topFairSpec)

/-- 'foretelltop.TopWeak', WHERE WHAT IT READS IS OF BULK AT MOST 1048576: true; the input reads as it did. -/
def topWeakUptoRow : OpenClaim := { program := "ytbmimdnpchldlaagreatdoor", sum := "4203a47223516abc308f12fd9845436e9f9683021d42e03f27854e9c4bdd358e", func := "foretell/foretelltop.TopWeak", spec := "topWeak", unfollowed := true, recurses := true, named := ["foretell/polish.parts"], plainKeys := false, apart := false, laid := [("foretell/polish.parts", laid_foretell_polish_parts)], narrowed := true }
def TopWeakUptoSaid : Prop := topWeakUptoRow.holds Tryz.pinned (OpenSpec.upto topWeakSpec)

/-- 'foretelltop.TopNest', WHERE WHAT IT READS IS OF BULK AT MOST 1048576: true; the input reads as it did. -/
def topNestUptoRow : OpenClaim := { program := "ytbmimdnpchldlaagreatdoor", sum := "4203a47223516abc308f12fd9845436e9f9683021d42e03f27854e9c4bdd358e", func := "foretell/foretelltop.TopNest", spec := "topNest", unfollowed := true, recurses := true, named := ["foretell/polish.parts"], plainKeys := false, apart := false, laid := [("foretell/polish.parts", laid_foretell_polish_parts)], narrowed := true }
def TopNestUptoSaid : Prop := topNestUptoRow.holds Tryz.pinned (OpenSpec.upto topNestSpec)

/-- 'foretelltop.TopSplit', WHERE WHAT IT READS IS OF BULK AT MOST 1048576: true; the input reads as it did. -/
def topSplitUptoRow : OpenClaim := { program := "ytbmimdnpchldlaagreatdoor", sum := "4203a47223516abc308f12fd9845436e9f9683021d42e03f27854e9c4bdd358e", func := "foretell/foretelltop.TopSplit", spec := "topSplit", unfollowed := true, recurses := true, named := ["foretell/polish.parts"], plainKeys := false, apart := false, laid := [("foretell/polish.parts", laid_foretell_polish_parts)], narrowed := true }
def TopSplitUptoSaid : Prop := topSplitUptoRow.holds Tryz.pinned (OpenSpec.upto topSplitSpec)

end Rows
end Go.Proofs.YtbmimdnpchldlaaGreatDoor
