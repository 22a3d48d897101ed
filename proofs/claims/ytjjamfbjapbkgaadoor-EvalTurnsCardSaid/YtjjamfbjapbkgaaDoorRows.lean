/-
  NARROWER THAN 'FOR EVERY INPUT', by the rows' own cells (each row's printed sentence says how): EndsNest: laid · PolishOne: laid · SplitJoin: laid · DepthGrows: laid · CheckType: laid · EvalTruth: laid · EvalTurns: laid · EvalLogic: laid · EvalOver: laid · EvalShift: laid · EvalOrder: laid.
  DERIVED. THE GIVEN ROWS OF THIS SEAT. 11 by the template 'for every input the law returns true; each argument reads behind the call as it read before'; 0 by the template 'total and deterministic' (their statements: YtjjamfbjapbkgaaDoorTotals.lean).
  GIVEN WITH THE SEED: the statements are not yours to turn. If you find one false, say at which input.
  Laid BY PROGRAM, IN A SANDBOX (cutbox-rows.mjs): the forced cells as the released guide's own fill.sh prints them over the translation 5b88fd32dc261eee… (all of the seat's roots in one cut). By AI agents, Wed Nov 11 2026. No macro, syntax, notation, axiom, sorry.
-/
import Derived.Test.YtjjamfbjapbkgaaDoorChecked
import GoSem.Claim
import GoSem.ClaimJoined
import GoSem.ClaimMapViews
import Derived.JoinedTies
import Derived.KernelRfl
namespace Go.Proofs.YtjjamfbjapbkgaaDoor
/- THE CELL 'sum', in the pinned program and in every row, IS THE sha256 OF THE DUMP (.gsa) THAT YtjjamfbjapbkgaaDoorProg.lean LOADS. Nothing in Lean hashes anything: it is a label: what it is worth is what the hold of that sum in a sandbox is worth. -/
noncomputable def Tryd.pinned : Pinned := { name := "ytjjamfbjapbkgaadoor", sum := "5b88fd32dc261eeeb853c9ae00ffbbcd2825fe9f0a19356b7da56000c2f0d9d9", checked := Tryd.checked }
namespace Rows
def none {H : Type} : Left H := { results := [], args := [] }

/- WHAT THE LISTED PACKAGE-LEVEL VARIABLES READ AS WHEN THE CALL BEGINS. Each datum BY PROGRAM (the guide's laid-datum.mjs) off the statement by which the dump's own 'gosem.cut.vars' lays the variable. In a bare row this is a premise. The card (YtjjamfbjapbkgaaDoorCards.lean) ties it to the program's text. -/
def laid_foretell_polish_parts {H : Type} : DataW H := .agg [.lit (.int .i64 (-1)), .lit (.int .i64 0), .lit (.int .i64 0), .lit (.int .i64 2), .lit (.int .i64 2), .lit (.int .i64 2), .lit (.int .i64 2), .lit (.int .i64 2), .lit (.int .i64 2), .lit (.int .i64 2), .lit (.int .i64 1), .lit (.int .i64 0), .lit (.int .i64 0), .lit (.int .i64 0), .lit (.int .i64 1), .lit (.int .i64 2), .lit (.int .i64 2), .lit (.int .i64 1), .lit (.int .i64 1)]

/-- 'foretellkeep.EndsNest': WHATEVER THE INPUT: true; the input reads as it did. -/
def endsNestSpec : ChangeSpec := { name := "endsNest", fn := fun _ => fun
  | [d] => { results := [.lit (.bool true)], args := [d] }
  | _ => none }
def endsNestRow : OpenClaim := { program := "ytjjamfbjapbkgaadoor", sum := "5b88fd32dc261eeeb853c9ae00ffbbcd2825fe9f0a19356b7da56000c2f0d9d9", func := "foretell/foretellkeep.EndsNest", spec := "endsNest", unfollowed := true, recurses := true, named := ["foretell/polish.parts"], apart := false, laid := [("foretell/polish.parts", laid_foretell_polish_parts)] }
def EndsNestSaid : Prop := endsNestRow.holds Tryd.pinned (OpenSpec.ofChange endsNestSpec)

/-- ITS FALSE NEIGHBOUR: 'it returns false'. Refute it at one input. -/
def endsNestWrong : ChangeSpec := { name := "endsNest", fn := fun _ => fun
  | [d] => { results := [.lit (.bool false)], args := [d] }
  | _ => none }
def EndsNestWrongFalsely : Prop := endsNestRow.holds Tryd.pinned (OpenSpec.ofChange endsNestWrong)

/-- 'foretellkeep.PolishOne': WHATEVER THE INPUT: true; the input reads as it did. -/
def polishOneSpec : ChangeSpec := { name := "polishOne", fn := fun _ => fun
  | [d1, d2] => { results := [.lit (.bool true)], args := [d1, d2] }
  | _ => none }
def polishOneRow : OpenClaim := { program := "ytjjamfbjapbkgaadoor", sum := "5b88fd32dc261eeeb853c9ae00ffbbcd2825fe9f0a19356b7da56000c2f0d9d9", func := "foretell/foretellkeep.PolishOne", spec := "polishOne", unfollowed := true, recurses := true, named := ["foretell/polish.parts"], apart := false, laid := [("foretell/polish.parts", laid_foretell_polish_parts)] }
def PolishOneSaid : Prop := polishOneRow.holds Tryd.pinned (OpenSpec.ofChange polishOneSpec)

/-- ITS FALSE NEIGHBOUR: 'it returns false'. Refute it at one input. -/
def polishOneWrong : ChangeSpec := { name := "polishOne", fn := fun _ => fun
  | [d1, d2] => { results := [.lit (.bool false)], args := [d1, d2] }
  | _ => none }
def PolishOneWrongFalsely : Prop := polishOneRow.holds Tryd.pinned (OpenSpec.ofChange polishOneWrong)

/-- 'foretellkeep.SplitJoin': WHATEVER THE INPUT: true; the input reads as it did. -/
def splitJoinSpec : ChangeSpec := { name := "splitJoin", fn := fun _ => fun
  | [d] => { results := [.lit (.bool true)], args := [d] }
  | _ => none }
def splitJoinRow : OpenClaim := { program := "ytjjamfbjapbkgaadoor", sum := "5b88fd32dc261eeeb853c9ae00ffbbcd2825fe9f0a19356b7da56000c2f0d9d9", func := "foretell/foretellkeep.SplitJoin", spec := "splitJoin", unfollowed := true, recurses := true, named := ["foretell/polish.parts"], apart := false, laid := [("foretell/polish.parts", laid_foretell_polish_parts)] }
def SplitJoinSaid : Prop := splitJoinRow.holds Tryd.pinned (OpenSpec.ofChange splitJoinSpec)

/-- ITS FALSE NEIGHBOUR: 'it returns false'. Refute it at one input. -/
def splitJoinWrong : ChangeSpec := { name := "splitJoin", fn := fun _ => fun
  | [d] => { results := [.lit (.bool false)], args := [d] }
  | _ => none }
def SplitJoinWrongFalsely : Prop := splitJoinRow.holds Tryd.pinned (OpenSpec.ofChange splitJoinWrong)

/-- 'foretellkeep.DepthGrows': WHATEVER THE INPUT: true; the input reads as it did. -/
def depthGrowsSpec : ChangeSpec := { name := "depthGrows", fn := fun _ => fun
  | [d1, d2] => { results := [.lit (.bool true)], args := [d1, d2] }
  | _ => none }
def depthGrowsRow : OpenClaim := { program := "ytjjamfbjapbkgaadoor", sum := "5b88fd32dc261eeeb853c9ae00ffbbcd2825fe9f0a19356b7da56000c2f0d9d9", func := "foretell/foretellkeep.DepthGrows", spec := "depthGrows", unfollowed := true, recurses := true, named := ["foretell/polish.parts"], apart := false, laid := [("foretell/polish.parts", laid_foretell_polish_parts)] }
def DepthGrowsSaid : Prop := depthGrowsRow.holds Tryd.pinned (OpenSpec.ofChange depthGrowsSpec)

/-- ITS FALSE NEIGHBOUR: 'it returns false'. Refute it at one input. -/
def depthGrowsWrong : ChangeSpec := { name := "depthGrows", fn := fun _ => fun
  | [d1, d2] => { results := [.lit (.bool false)], args := [d1, d2] }
  | _ => none }
def DepthGrowsWrongFalsely : Prop := depthGrowsRow.holds Tryd.pinned (OpenSpec.ofChange depthGrowsWrong)

/-- 'foretellkeep.CheckType': WHATEVER THE INPUT: true; the input reads as it did. -/
def checkTypeSpec : ChangeSpec := { name := "checkType", fn := fun _ => fun
  | [d1, d2] => { results := [.lit (.bool true)], args := [d1, d2] }
  | _ => none }
def checkTypeRow : OpenClaim := { program := "ytjjamfbjapbkgaadoor", sum := "5b88fd32dc261eeeb853c9ae00ffbbcd2825fe9f0a19356b7da56000c2f0d9d9", func := "foretell/foretellkeep.CheckType", spec := "checkType", unfollowed := true, recurses := true, named := ["foretell/polish.parts"], apart := false, laid := [("foretell/polish.parts", laid_foretell_polish_parts)] }
def CheckTypeSaid : Prop := checkTypeRow.holds Tryd.pinned (OpenSpec.ofChange checkTypeSpec)

/-- ITS FALSE NEIGHBOUR: 'it returns false'. Refute it at one input. -/
def checkTypeWrong : ChangeSpec := { name := "checkType", fn := fun _ => fun
  | [d1, d2] => { results := [.lit (.bool false)], args := [d1, d2] }
  | _ => none }
def CheckTypeWrongFalsely : Prop := checkTypeRow.holds Tryd.pinned (OpenSpec.ofChange checkTypeWrong)

/-- 'foretellkeep.EvalTruth': WHATEVER THE INPUT: true; the input reads as it did. -/
def evalTruthSpec : ChangeSpec := { name := "evalTruth", fn := fun _ => fun
  | [d1, d2] => { results := [.lit (.bool true)], args := [d1, d2] }
  | _ => none }
def evalTruthRow : OpenClaim := { program := "ytjjamfbjapbkgaadoor", sum := "5b88fd32dc261eeeb853c9ae00ffbbcd2825fe9f0a19356b7da56000c2f0d9d9", func := "foretell/foretellkeep.EvalTruth", spec := "evalTruth", unfollowed := true, recurses := true, named := ["foretell/polish.parts"], apart := false, laid := [("foretell/polish.parts", laid_foretell_polish_parts)] }
def EvalTruthSaid : Prop := evalTruthRow.holds Tryd.pinned (OpenSpec.ofChange evalTruthSpec)

/-- ITS FALSE NEIGHBOUR: 'it returns false'. Refute it at one input. -/
def evalTruthWrong : ChangeSpec := { name := "evalTruth", fn := fun _ => fun
  | [d1, d2] => { results := [.lit (.bool false)], args := [d1, d2] }
  | _ => none }
def EvalTruthWrongFalsely : Prop := evalTruthRow.holds Tryd.pinned (OpenSpec.ofChange evalTruthWrong)

/-- 'foretellkeep.EvalTurns': WHATEVER THE INPUT: true; the input reads as it did. -/
def evalTurnsSpec : ChangeSpec := { name := "evalTurns", fn := fun _ => fun
  | [d1, d2, d3] => { results := [.lit (.bool true)], args := [d1, d2, d3] }
  | _ => none }
def evalTurnsRow : OpenClaim := { program := "ytjjamfbjapbkgaadoor", sum := "5b88fd32dc261eeeb853c9ae00ffbbcd2825fe9f0a19356b7da56000c2f0d9d9", func := "foretell/foretellkeep.EvalTurns", spec := "evalTurns", unfollowed := true, recurses := true, named := ["foretell/polish.parts"], apart := false, laid := [("foretell/polish.parts", laid_foretell_polish_parts)] }
def EvalTurnsSaid : Prop := evalTurnsRow.holds Tryd.pinned (OpenSpec.ofChange evalTurnsSpec)

/-- ITS FALSE NEIGHBOUR: 'it returns false'. Refute it at one input. -/
def evalTurnsWrong : ChangeSpec := { name := "evalTurns", fn := fun _ => fun
  | [d1, d2, d3] => { results := [.lit (.bool false)], args := [d1, d2, d3] }
  | _ => none }
def EvalTurnsWrongFalsely : Prop := evalTurnsRow.holds Tryd.pinned (OpenSpec.ofChange evalTurnsWrong)

/-- 'foretellkeep.EvalLogic': WHATEVER THE INPUT: true; the input reads as it did. -/
def evalLogicSpec : ChangeSpec := { name := "evalLogic", fn := fun _ => fun
  | [d1, d2, d3] => { results := [.lit (.bool true)], args := [d1, d2, d3] }
  | _ => none }
def evalLogicRow : OpenClaim := { program := "ytjjamfbjapbkgaadoor", sum := "5b88fd32dc261eeeb853c9ae00ffbbcd2825fe9f0a19356b7da56000c2f0d9d9", func := "foretell/foretellkeep.EvalLogic", spec := "evalLogic", unfollowed := true, recurses := true, named := ["foretell/polish.parts"], apart := false, laid := [("foretell/polish.parts", laid_foretell_polish_parts)] }
def EvalLogicSaid : Prop := evalLogicRow.holds Tryd.pinned (OpenSpec.ofChange evalLogicSpec)

/-- ITS FALSE NEIGHBOUR: 'it returns false'. Refute it at one input. -/
def evalLogicWrong : ChangeSpec := { name := "evalLogic", fn := fun _ => fun
  | [d1, d2, d3] => { results := [.lit (.bool false)], args := [d1, d2, d3] }
  | _ => none }
def EvalLogicWrongFalsely : Prop := evalLogicRow.holds Tryd.pinned (OpenSpec.ofChange evalLogicWrong)

/-- 'foretellkeep.EvalOver': WHATEVER THE INPUT: true; the input reads as it did. -/
def evalOverSpec : ChangeSpec := { name := "evalOver", fn := fun _ => fun
  | [d1, d2] => { results := [.lit (.bool true)], args := [d1, d2] }
  | _ => none }
def evalOverRow : OpenClaim := { program := "ytjjamfbjapbkgaadoor", sum := "5b88fd32dc261eeeb853c9ae00ffbbcd2825fe9f0a19356b7da56000c2f0d9d9", func := "foretell/foretellkeep.EvalOver", spec := "evalOver", unfollowed := true, recurses := true, named := ["foretell/polish.parts"], apart := false, laid := [("foretell/polish.parts", laid_foretell_polish_parts)] }
def EvalOverSaid : Prop := evalOverRow.holds Tryd.pinned (OpenSpec.ofChange evalOverSpec)

/-- ITS FALSE NEIGHBOUR: 'it returns false'. Refute it at one input. -/
def evalOverWrong : ChangeSpec := { name := "evalOver", fn := fun _ => fun
  | [d1, d2] => { results := [.lit (.bool false)], args := [d1, d2] }
  | _ => none }
def EvalOverWrongFalsely : Prop := evalOverRow.holds Tryd.pinned (OpenSpec.ofChange evalOverWrong)

/-- 'foretellkeep.EvalShift': WHATEVER THE INPUT: true; the input reads as it did. -/
def evalShiftSpec : ChangeSpec := { name := "evalShift", fn := fun _ => fun
  | [d1, d2, d3] => { results := [.lit (.bool true)], args := [d1, d2, d3] }
  | _ => none }
def evalShiftRow : OpenClaim := { program := "ytjjamfbjapbkgaadoor", sum := "5b88fd32dc261eeeb853c9ae00ffbbcd2825fe9f0a19356b7da56000c2f0d9d9", func := "foretell/foretellkeep.EvalShift", spec := "evalShift", unfollowed := true, recurses := true, named := ["foretell/polish.parts"], apart := false, laid := [("foretell/polish.parts", laid_foretell_polish_parts)] }
def EvalShiftSaid : Prop := evalShiftRow.holds Tryd.pinned (OpenSpec.ofChange evalShiftSpec)

/-- ITS FALSE NEIGHBOUR: 'it returns false'. Refute it at one input. -/
def evalShiftWrong : ChangeSpec := { name := "evalShift", fn := fun _ => fun
  | [d1, d2, d3] => { results := [.lit (.bool false)], args := [d1, d2, d3] }
  | _ => none }
def EvalShiftWrongFalsely : Prop := evalShiftRow.holds Tryd.pinned (OpenSpec.ofChange evalShiftWrong)

/-- 'foretellkeep.EvalOrder': WHATEVER THE INPUT: true; the input reads as it did. -/
def evalOrderSpec : ChangeSpec := { name := "evalOrder", fn := fun _ => fun
  | [d1, d2, d3] => { results := [.lit (.bool true)], args := [d1, d2, d3] }
  | _ => none }
def evalOrderRow : OpenClaim := { program := "ytjjamfbjapbkgaadoor", sum := "5b88fd32dc261eeeb853c9ae00ffbbcd2825fe9f0a19356b7da56000c2f0d9d9", func := "foretell/foretellkeep.EvalOrder", spec := "evalOrder", unfollowed := true, recurses := true, named := ["foretell/polish.parts"], apart := false, laid := [("foretell/polish.parts", laid_foretell_polish_parts)] }
def EvalOrderSaid : Prop := evalOrderRow.holds Tryd.pinned (OpenSpec.ofChange evalOrderSpec)

/-- ITS FALSE NEIGHBOUR: 'it returns false'. Refute it at one input. -/
def evalOrderWrong : ChangeSpec := { name := "evalOrder", fn := fun _ => fun
  | [d1, d2, d3] => { results := [.lit (.bool false)], args := [d1, d2, d3] }
  | _ => none }
def EvalOrderWrongFalsely : Prop := evalOrderRow.holds Tryd.pinned (OpenSpec.ofChange evalOrderWrong)

/- THE SECOND FORM. 'bulk': how many values and letters a reading holds, each counted each time it is reached (what is shared counts as often as it is met; a slice's spare places count too). A statement '..UptoSaid' is the law's where the arguments, and the package variables that the reading takes, are together of bulk at most 1048576: NARROWER than '..Said'. Prove '..Said' where nothing that the law and all that it calls make is longer than what came in: it says more and counts as full. Else prove '..UptoSaid'. A law counts once. -/
mutual
def uptoBulk {H : Type} : DataW H → Nat
  | .lit (.string bytes) => bytes.length + 1
  | .lit _ => 1
  | .nil => 1
  | .ptr d => uptoBulk d + 1
  | .slice elems spare => uptoBulkAll elems + uptoBulkAll spare + 1
  | .agg parts => uptoBulkAll parts + 1
  | .iface _ d => uptoBulk d + 1
  | .map entries => uptoBulkEntries entries + 1
  | .held _ => 1
def uptoBulkAll {H : Type} : List (DataW H) → Nat
  | [] => 0
  | d :: r => uptoBulk d + uptoBulkAll r
def uptoBulkEntries {H : Type} : List (Lit × DataW H) → Nat
  | [] => 0
  | x :: r => uptoBulkEntry x + uptoBulkEntries r
def uptoBulkEntry {H : Type} : Lit × DataW H → Nat
  | (.string bytes, d) => bytes.length + uptoBulk d + 1
  | (_, d) => uptoBulk d + 1
 end
def uptoSmall : (H : Type) → List (DataW H) → Bool := fun _ ds => decide (uptoBulkAll ds ≤ 1048576)
def OpenSpec.upto (s : _root_.Go.ChangeSpec) : _root_.Go.OpenSpec := { _root_.Go.OpenSpec.ofChange s with cond := some uptoSmall }

/-- 'foretellkeep.EndsNest', WHERE WHAT IT READS IS OF BULK AT MOST 1048576: true; the input reads as it did. -/
def endsNestUptoRow : OpenClaim := { program := "ytjjamfbjapbkgaadoor", sum := "5b88fd32dc261eeeb853c9ae00ffbbcd2825fe9f0a19356b7da56000c2f0d9d9", func := "foretell/foretellkeep.EndsNest", spec := "endsNest", unfollowed := true, recurses := true, named := ["foretell/polish.parts"], apart := false, laid := [("foretell/polish.parts", laid_foretell_polish_parts)], narrowed := true }
def EndsNestUptoSaid : Prop := endsNestUptoRow.holds Tryd.pinned (OpenSpec.upto endsNestSpec)

/-- 'foretellkeep.PolishOne', WHERE WHAT IT READS IS OF BULK AT MOST 1048576: true; the input reads as it did. -/
def polishOneUptoRow : OpenClaim := { program := "ytjjamfbjapbkgaadoor", sum := "5b88fd32dc261eeeb853c9ae00ffbbcd2825fe9f0a19356b7da56000c2f0d9d9", func := "foretell/foretellkeep.PolishOne", spec := "polishOne", unfollowed := true, recurses := true, named := ["foretell/polish.parts"], apart := false, laid := [("foretell/polish.parts", laid_foretell_polish_parts)], narrowed := true }
def PolishOneUptoSaid : Prop := polishOneUptoRow.holds Tryd.pinned (OpenSpec.upto polishOneSpec)

/-- 'foretellkeep.SplitJoin', WHERE WHAT IT READS IS OF BULK AT MOST 1048576: true; the input reads as it did. -/
def splitJoinUptoRow : OpenClaim := { program := "ytjjamfbjapbkgaadoor", sum := "5b88fd32dc261eeeb853c9ae00ffbbcd2825fe9f0a19356b7da56000c2f0d9d9", func := "foretell/foretellkeep.SplitJoin", spec := "splitJoin", unfollowed := true, recurses := true, named := ["foretell/polish.parts"], apart := false, laid := [("foretell/polish.parts", laid_foretell_polish_parts)], narrowed := true }
def SplitJoinUptoSaid : Prop := splitJoinUptoRow.holds Tryd.pinned (OpenSpec.upto splitJoinSpec)

/-- 'foretellkeep.DepthGrows', WHERE WHAT IT READS IS OF BULK AT MOST 1048576: true; the input reads as it did. -/
def depthGrowsUptoRow : OpenClaim := { program := "ytjjamfbjapbkgaadoor", sum := "5b88fd32dc261eeeb853c9ae00ffbbcd2825fe9f0a19356b7da56000c2f0d9d9", func := "foretell/foretellkeep.DepthGrows", spec := "depthGrows", unfollowed := true, recurses := true, named := ["foretell/polish.parts"], apart := false, laid := [("foretell/polish.parts", laid_foretell_polish_parts)], narrowed := true }
def DepthGrowsUptoSaid : Prop := depthGrowsUptoRow.holds Tryd.pinned (OpenSpec.upto depthGrowsSpec)

/-- 'foretellkeep.CheckType', WHERE WHAT IT READS IS OF BULK AT MOST 1048576: true; the input reads as it did. -/
def checkTypeUptoRow : OpenClaim := { program := "ytjjamfbjapbkgaadoor", sum := "5b88fd32dc261eeeb853c9ae00ffbbcd2825fe9f0a19356b7da56000c2f0d9d9", func := "foretell/foretellkeep.CheckType", spec := "checkType", unfollowed := true, recurses := true, named := ["foretell/polish.parts"], apart := false, laid := [("foretell/polish.parts", laid_foretell_polish_parts)], narrowed := true }
def CheckTypeUptoSaid : Prop := checkTypeUptoRow.holds Tryd.pinned (OpenSpec.upto checkTypeSpec)

/-- 'foretellkeep.EvalTruth', WHERE WHAT IT READS IS OF BULK AT MOST 1048576: true; the input reads as it did. -/
def evalTruthUptoRow : OpenClaim := { program := "ytjjamfbjapbkgaadoor", sum := "5b88fd32dc261eeeb853c9ae00ffbbcd2825fe9f0a19356b7da56000c2f0d9d9", func := "foretell/foretellkeep.EvalTruth", spec := "evalTruth", unfollowed := true, recurses := true, named := ["foretell/polish.parts"], apart := false, laid := [("foretell/polish.parts", laid_foretell_polish_parts)], narrowed := true }
def EvalTruthUptoSaid : Prop := evalTruthUptoRow.holds Tryd.pinned (OpenSpec.upto evalTruthSpec)

/-- 'foretellkeep.EvalTurns', WHERE WHAT IT READS IS OF BULK AT MOST 1048576: true; the input reads as it did. -/
def evalTurnsUptoRow : OpenClaim := { program := "ytjjamfbjapbkgaadoor", sum := "5b88fd32dc261eeeb853c9ae00ffbbcd2825fe9f0a19356b7da56000c2f0d9d9", func := "foretell/foretellkeep.EvalTurns", spec := "evalTurns", unfollowed := true, recurses := true, named := ["foretell/polish.parts"], apart := false, laid := [("foretell/polish.parts", laid_foretell_polish_parts)], narrowed := true }
def EvalTurnsUptoSaid : Prop := evalTurnsUptoRow.holds Tryd.pinned (OpenSpec.upto evalTurnsSpec)

/-- 'foretellkeep.EvalLogic', WHERE WHAT IT READS IS OF BULK AT MOST 1048576: true; the input reads as it did. -/
def evalLogicUptoRow : OpenClaim := { program := "ytjjamfbjapbkgaadoor", sum := "5b88fd32dc261eeeb853c9ae00ffbbcd2825fe9f0a19356b7da56000c2f0d9d9", func := "foretell/foretellkeep.EvalLogic", spec := "evalLogic", unfollowed := true, recurses := true, named := ["foretell/polish.parts"], apart := false, laid := [("foretell/polish.parts", laid_foretell_polish_parts)], narrowed := true }
def EvalLogicUptoSaid : Prop := evalLogicUptoRow.holds Tryd.pinned (OpenSpec.upto evalLogicSpec)

/-- 'foretellkeep.EvalOver', WHERE WHAT IT READS IS OF BULK AT MOST 1048576: true; the input reads as it did. -/
def evalOverUptoRow : OpenClaim := { program := "ytjjamfbjapbkgaadoor", sum := "5b88fd32dc261eeeb853c9ae00ffbbcd2825fe9f0a19356b7da56000c2f0d9d9", func := "foretell/foretellkeep.EvalOver", spec := "evalOver", unfollowed := true, recurses := true, named := ["foretell/polish.parts"], apart := false, laid := [("foretell/polish.parts", laid_foretell_polish_parts)], narrowed := true }
def EvalOverUptoSaid : Prop := evalOverUptoRow.holds Tryd.pinned (OpenSpec.upto evalOverSpec)

/-- 'foretellkeep.EvalShift', WHERE WHAT IT READS IS OF BULK AT MOST 1048576: true; the input reads as it did. -/
def evalShiftUptoRow : OpenClaim := { program := "ytjjamfbjapbkgaadoor", sum := "5b88fd32dc261eeeb853c9ae00ffbbcd2825fe9f0a19356b7da56000c2f0d9d9", func := "foretell/foretellkeep.EvalShift", spec := "evalShift", unfollowed := true, recurses := true, named := ["foretell/polish.parts"], apart := false, laid := [("foretell/polish.parts", laid_foretell_polish_parts)], narrowed := true }
def EvalShiftUptoSaid : Prop := evalShiftUptoRow.holds Tryd.pinned (OpenSpec.upto evalShiftSpec)

/-- 'foretellkeep.EvalOrder', WHERE WHAT IT READS IS OF BULK AT MOST 1048576: true; the input reads as it did. -/
def evalOrderUptoRow : OpenClaim := { program := "ytjjamfbjapbkgaadoor", sum := "5b88fd32dc261eeeb853c9ae00ffbbcd2825fe9f0a19356b7da56000c2f0d9d9", func := "foretell/foretellkeep.EvalOrder", spec := "evalOrder", unfollowed := true, recurses := true, named := ["foretell/polish.parts"], apart := false, laid := [("foretell/polish.parts", laid_foretell_polish_parts)], narrowed := true }
def EvalOrderUptoSaid : Prop := evalOrderUptoRow.holds Tryd.pinned (OpenSpec.upto evalOrderSpec)

end Rows
end Go.Proofs.YtjjamfbjapbkgaaDoor
