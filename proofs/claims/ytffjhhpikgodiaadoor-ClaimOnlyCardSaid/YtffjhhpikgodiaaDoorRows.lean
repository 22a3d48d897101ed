/-
  NARROWER THAN 'FOR EVERY INPUT', by the rows' own cells (each row's printed sentence says how): TruthTurns: laid · MeetsAll: laid · WordNow: laid · WordLoop: laid · WordNot: laid · WordDual: laid · WordLonger: laid · WordShift: laid · WordSpread: laid · WordNest: laid · ClaimOnly: laid · ClaimStuck: laid · ClaimLine: laid.
  DERIVED. THE GIVEN ROWS OF THIS SEAT. 13 by the template 'for every input the law returns true; each argument reads behind the call as it read before'; 0 by the template 'total and deterministic' (their statements: YtffjhhpikgodiaaDoorTotals.lean).
  GIVEN WITH THE SEED: the statements are not yours to turn. If you find one false, say at which input.
  Laid BY PROGRAM, IN A SANDBOX (cutbox-rows.mjs): the forced cells as the released guide's own fill.sh prints them over the translation b8f7f38a2c14f990… (all of the seat's roots in one cut). By AI agents, Wed Nov 11 2026. No macro, syntax, notation, axiom, sorry.
-/
import Derived.Test.YtffjhhpikgodiaaDoorChecked
import GoSem.Claim
import GoSem.ClaimJoined
import GoSem.ClaimMapViews
import Derived.JoinedTies
import Derived.KernelRfl
namespace Go.Proofs.YtffjhhpikgodiaaDoor
/- THE CELL 'sum', in the pinned program and in every row, IS THE sha256 OF THE DUMP (.gsa) THAT YtffjhhpikgodiaaDoorProg.lean LOADS. Nothing in Lean hashes anything: it is a label: what it is worth is what the hold of that sum in a sandbox is worth. -/
noncomputable def Tryd.pinned : Pinned := { name := "ytffjhhpikgodiaadoor", sum := "b8f7f38a2c14f990347ae496ae48f5094609a00220ea1cd9390a10ad192f8bac", checked := Tryd.checked }
namespace Rows
def none {H : Type} : Left H := { results := [], args := [] }

/- WHAT THE LISTED PACKAGE-LEVEL VARIABLES READ AS WHEN THE CALL BEGINS. Each datum BY PROGRAM (the guide's laid-datum.mjs) off the statement by which the dump's own 'gosem.cut.vars' lays the variable. In a bare row this is a premise. The card (YtffjhhpikgodiaaDoorCards.lean) ties it to the program's text. -/
def laid_foretell_polish_parts {H : Type} : DataW H := .agg [.lit (.int .i64 (-1)), .lit (.int .i64 0), .lit (.int .i64 0), .lit (.int .i64 2), .lit (.int .i64 2), .lit (.int .i64 2), .lit (.int .i64 2), .lit (.int .i64 2), .lit (.int .i64 2), .lit (.int .i64 2), .lit (.int .i64 1), .lit (.int .i64 0), .lit (.int .i64 0), .lit (.int .i64 0), .lit (.int .i64 1), .lit (.int .i64 2), .lit (.int .i64 2), .lit (.int .i64 1), .lit (.int .i64 1)]

/-- 'foretellkeep.TruthTurns': WHATEVER THE INPUT: true; the input reads as it did. -/
def truthTurnsSpec : ChangeSpec := { name := "truthTurns", fn := fun _ => fun
  | [d1, d2, d3] => { results := [.lit (.bool true)], args := [d1, d2, d3] }
  | _ => none }
def truthTurnsRow : OpenClaim := { program := "ytffjhhpikgodiaadoor", sum := "b8f7f38a2c14f990347ae496ae48f5094609a00220ea1cd9390a10ad192f8bac", func := "foretell/foretellkeep.TruthTurns", spec := "truthTurns", unfollowed := true, recurses := true, named := ["foretell/polish.parts"], apart := false, laid := [("foretell/polish.parts", laid_foretell_polish_parts)] }
def TruthTurnsSaid : Prop := truthTurnsRow.holds Tryd.pinned (OpenSpec.ofChange truthTurnsSpec)

/-- ITS FALSE NEIGHBOUR: 'it returns false'. Refute it at one input. -/
def truthTurnsWrong : ChangeSpec := { name := "truthTurns", fn := fun _ => fun
  | [d1, d2, d3] => { results := [.lit (.bool false)], args := [d1, d2, d3] }
  | _ => none }
def TruthTurnsWrongFalsely : Prop := truthTurnsRow.holds Tryd.pinned (OpenSpec.ofChange truthTurnsWrong)

/-- 'foretellkeep.MeetsAll': WHATEVER THE INPUT: true; the input reads as it did. -/
def meetsAllSpec : ChangeSpec := { name := "meetsAll", fn := fun _ => fun
  | [d1, d2, d3] => { results := [.lit (.bool true)], args := [d1, d2, d3] }
  | _ => none }
def meetsAllRow : OpenClaim := { program := "ytffjhhpikgodiaadoor", sum := "b8f7f38a2c14f990347ae496ae48f5094609a00220ea1cd9390a10ad192f8bac", func := "foretell/foretellkeep.MeetsAll", spec := "meetsAll", unfollowed := true, recurses := true, named := ["foretell/polish.parts"], apart := false, laid := [("foretell/polish.parts", laid_foretell_polish_parts)] }
def MeetsAllSaid : Prop := meetsAllRow.holds Tryd.pinned (OpenSpec.ofChange meetsAllSpec)

/-- ITS FALSE NEIGHBOUR: 'it returns false'. Refute it at one input. -/
def meetsAllWrong : ChangeSpec := { name := "meetsAll", fn := fun _ => fun
  | [d1, d2, d3] => { results := [.lit (.bool false)], args := [d1, d2, d3] }
  | _ => none }
def MeetsAllWrongFalsely : Prop := meetsAllRow.holds Tryd.pinned (OpenSpec.ofChange meetsAllWrong)

/-- 'foretellkeep.WordNow': WHATEVER THE INPUT: true; the input reads as it did. -/
def wordNowSpec : ChangeSpec := { name := "wordNow", fn := fun _ => fun
  | [d1, d2, d3] => { results := [.lit (.bool true)], args := [d1, d2, d3] }
  | _ => none }
def wordNowRow : OpenClaim := { program := "ytffjhhpikgodiaadoor", sum := "b8f7f38a2c14f990347ae496ae48f5094609a00220ea1cd9390a10ad192f8bac", func := "foretell/foretellkeep.WordNow", spec := "wordNow", unfollowed := true, recurses := true, named := ["foretell/polish.parts"], apart := false, laid := [("foretell/polish.parts", laid_foretell_polish_parts)] }
def WordNowSaid : Prop := wordNowRow.holds Tryd.pinned (OpenSpec.ofChange wordNowSpec)

/-- ITS FALSE NEIGHBOUR: 'it returns false'. Refute it at one input. -/
def wordNowWrong : ChangeSpec := { name := "wordNow", fn := fun _ => fun
  | [d1, d2, d3] => { results := [.lit (.bool false)], args := [d1, d2, d3] }
  | _ => none }
def WordNowWrongFalsely : Prop := wordNowRow.holds Tryd.pinned (OpenSpec.ofChange wordNowWrong)

/-- 'foretellkeep.WordLoop': WHATEVER THE INPUT: true; the input reads as it did. -/
def wordLoopSpec : ChangeSpec := { name := "wordLoop", fn := fun _ => fun
  | [d1, d2] => { results := [.lit (.bool true)], args := [d1, d2] }
  | _ => none }
def wordLoopRow : OpenClaim := { program := "ytffjhhpikgodiaadoor", sum := "b8f7f38a2c14f990347ae496ae48f5094609a00220ea1cd9390a10ad192f8bac", func := "foretell/foretellkeep.WordLoop", spec := "wordLoop", unfollowed := true, recurses := true, named := ["foretell/polish.parts"], apart := false, laid := [("foretell/polish.parts", laid_foretell_polish_parts)] }
def WordLoopSaid : Prop := wordLoopRow.holds Tryd.pinned (OpenSpec.ofChange wordLoopSpec)

/-- ITS FALSE NEIGHBOUR: 'it returns false'. Refute it at one input. -/
def wordLoopWrong : ChangeSpec := { name := "wordLoop", fn := fun _ => fun
  | [d1, d2] => { results := [.lit (.bool false)], args := [d1, d2] }
  | _ => none }
def WordLoopWrongFalsely : Prop := wordLoopRow.holds Tryd.pinned (OpenSpec.ofChange wordLoopWrong)

/-- 'foretellkeep.WordNot': WHATEVER THE INPUT: true; the input reads as it did. -/
def wordNotSpec : ChangeSpec := { name := "wordNot", fn := fun _ => fun
  | [d1, d2, d3] => { results := [.lit (.bool true)], args := [d1, d2, d3] }
  | _ => none }
def wordNotRow : OpenClaim := { program := "ytffjhhpikgodiaadoor", sum := "b8f7f38a2c14f990347ae496ae48f5094609a00220ea1cd9390a10ad192f8bac", func := "foretell/foretellkeep.WordNot", spec := "wordNot", unfollowed := true, recurses := true, named := ["foretell/polish.parts"], apart := false, laid := [("foretell/polish.parts", laid_foretell_polish_parts)] }
def WordNotSaid : Prop := wordNotRow.holds Tryd.pinned (OpenSpec.ofChange wordNotSpec)

/-- ITS FALSE NEIGHBOUR: 'it returns false'. Refute it at one input. -/
def wordNotWrong : ChangeSpec := { name := "wordNot", fn := fun _ => fun
  | [d1, d2, d3] => { results := [.lit (.bool false)], args := [d1, d2, d3] }
  | _ => none }
def WordNotWrongFalsely : Prop := wordNotRow.holds Tryd.pinned (OpenSpec.ofChange wordNotWrong)

/-- 'foretellkeep.WordDual': WHATEVER THE INPUT: true; the input reads as it did. -/
def wordDualSpec : ChangeSpec := { name := "wordDual", fn := fun _ => fun
  | [d1, d2, d3] => { results := [.lit (.bool true)], args := [d1, d2, d3] }
  | _ => none }
def wordDualRow : OpenClaim := { program := "ytffjhhpikgodiaadoor", sum := "b8f7f38a2c14f990347ae496ae48f5094609a00220ea1cd9390a10ad192f8bac", func := "foretell/foretellkeep.WordDual", spec := "wordDual", unfollowed := true, recurses := true, named := ["foretell/polish.parts"], apart := false, laid := [("foretell/polish.parts", laid_foretell_polish_parts)] }
def WordDualSaid : Prop := wordDualRow.holds Tryd.pinned (OpenSpec.ofChange wordDualSpec)

/-- ITS FALSE NEIGHBOUR: 'it returns false'. Refute it at one input. -/
def wordDualWrong : ChangeSpec := { name := "wordDual", fn := fun _ => fun
  | [d1, d2, d3] => { results := [.lit (.bool false)], args := [d1, d2, d3] }
  | _ => none }
def WordDualWrongFalsely : Prop := wordDualRow.holds Tryd.pinned (OpenSpec.ofChange wordDualWrong)

/-- 'foretellkeep.WordLonger': WHATEVER THE INPUT: true; the input reads as it did. -/
def wordLongerSpec : ChangeSpec := { name := "wordLonger", fn := fun _ => fun
  | [d1, d2] => { results := [.lit (.bool true)], args := [d1, d2] }
  | _ => none }
def wordLongerRow : OpenClaim := { program := "ytffjhhpikgodiaadoor", sum := "b8f7f38a2c14f990347ae496ae48f5094609a00220ea1cd9390a10ad192f8bac", func := "foretell/foretellkeep.WordLonger", spec := "wordLonger", unfollowed := true, recurses := true, named := ["foretell/polish.parts"], apart := false, laid := [("foretell/polish.parts", laid_foretell_polish_parts)] }
def WordLongerSaid : Prop := wordLongerRow.holds Tryd.pinned (OpenSpec.ofChange wordLongerSpec)

/-- ITS FALSE NEIGHBOUR: 'it returns false'. Refute it at one input. -/
def wordLongerWrong : ChangeSpec := { name := "wordLonger", fn := fun _ => fun
  | [d1, d2] => { results := [.lit (.bool false)], args := [d1, d2] }
  | _ => none }
def WordLongerWrongFalsely : Prop := wordLongerRow.holds Tryd.pinned (OpenSpec.ofChange wordLongerWrong)

/-- 'foretellkeep.WordShift': WHATEVER THE INPUT: true; the input reads as it did. -/
def wordShiftSpec : ChangeSpec := { name := "wordShift", fn := fun _ => fun
  | [d1, d2] => { results := [.lit (.bool true)], args := [d1, d2] }
  | _ => none }
def wordShiftRow : OpenClaim := { program := "ytffjhhpikgodiaadoor", sum := "b8f7f38a2c14f990347ae496ae48f5094609a00220ea1cd9390a10ad192f8bac", func := "foretell/foretellkeep.WordShift", spec := "wordShift", unfollowed := true, recurses := true, named := ["foretell/polish.parts"], apart := false, laid := [("foretell/polish.parts", laid_foretell_polish_parts)] }
def WordShiftSaid : Prop := wordShiftRow.holds Tryd.pinned (OpenSpec.ofChange wordShiftSpec)

/-- ITS FALSE NEIGHBOUR: 'it returns false'. Refute it at one input. -/
def wordShiftWrong : ChangeSpec := { name := "wordShift", fn := fun _ => fun
  | [d1, d2] => { results := [.lit (.bool false)], args := [d1, d2] }
  | _ => none }
def WordShiftWrongFalsely : Prop := wordShiftRow.holds Tryd.pinned (OpenSpec.ofChange wordShiftWrong)

/-- 'foretellkeep.WordSpread': WHATEVER THE INPUT: true; the input reads as it did. -/
def wordSpreadSpec : ChangeSpec := { name := "wordSpread", fn := fun _ => fun
  | [d1, d2, d3, d4] => { results := [.lit (.bool true)], args := [d1, d2, d3, d4] }
  | _ => none }
def wordSpreadRow : OpenClaim := { program := "ytffjhhpikgodiaadoor", sum := "b8f7f38a2c14f990347ae496ae48f5094609a00220ea1cd9390a10ad192f8bac", func := "foretell/foretellkeep.WordSpread", spec := "wordSpread", unfollowed := true, recurses := true, named := ["foretell/polish.parts"], apart := false, laid := [("foretell/polish.parts", laid_foretell_polish_parts)] }
def WordSpreadSaid : Prop := wordSpreadRow.holds Tryd.pinned (OpenSpec.ofChange wordSpreadSpec)

/-- ITS FALSE NEIGHBOUR: 'it returns false'. Refute it at one input. -/
def wordSpreadWrong : ChangeSpec := { name := "wordSpread", fn := fun _ => fun
  | [d1, d2, d3, d4] => { results := [.lit (.bool false)], args := [d1, d2, d3, d4] }
  | _ => none }
def WordSpreadWrongFalsely : Prop := wordSpreadRow.holds Tryd.pinned (OpenSpec.ofChange wordSpreadWrong)

/-- 'foretellkeep.WordNest': WHATEVER THE INPUT: true; the input reads as it did. -/
def wordNestSpec : ChangeSpec := { name := "wordNest", fn := fun _ => fun
  | [d1, d2, d3] => { results := [.lit (.bool true)], args := [d1, d2, d3] }
  | _ => none }
def wordNestRow : OpenClaim := { program := "ytffjhhpikgodiaadoor", sum := "b8f7f38a2c14f990347ae496ae48f5094609a00220ea1cd9390a10ad192f8bac", func := "foretell/foretellkeep.WordNest", spec := "wordNest", unfollowed := true, recurses := true, named := ["foretell/polish.parts"], apart := false, laid := [("foretell/polish.parts", laid_foretell_polish_parts)] }
def WordNestSaid : Prop := wordNestRow.holds Tryd.pinned (OpenSpec.ofChange wordNestSpec)

/-- ITS FALSE NEIGHBOUR: 'it returns false'. Refute it at one input. -/
def wordNestWrong : ChangeSpec := { name := "wordNest", fn := fun _ => fun
  | [d1, d2, d3] => { results := [.lit (.bool false)], args := [d1, d2, d3] }
  | _ => none }
def WordNestWrongFalsely : Prop := wordNestRow.holds Tryd.pinned (OpenSpec.ofChange wordNestWrong)

/-- 'foretellkeep.ClaimOnly': WHATEVER THE INPUT: true; the input reads as it did. -/
def claimOnlySpec : ChangeSpec := { name := "claimOnly", fn := fun _ => fun
  | [d1, d2, d3] => { results := [.lit (.bool true)], args := [d1, d2, d3] }
  | _ => none }
def claimOnlyRow : OpenClaim := { program := "ytffjhhpikgodiaadoor", sum := "b8f7f38a2c14f990347ae496ae48f5094609a00220ea1cd9390a10ad192f8bac", func := "foretell/foretellkeep.ClaimOnly", spec := "claimOnly", unfollowed := true, recurses := true, named := ["foretell/polish.parts"], apart := false, laid := [("foretell/polish.parts", laid_foretell_polish_parts)] }
def ClaimOnlySaid : Prop := claimOnlyRow.holds Tryd.pinned (OpenSpec.ofChange claimOnlySpec)

/-- ITS FALSE NEIGHBOUR: 'it returns false'. Refute it at one input. -/
def claimOnlyWrong : ChangeSpec := { name := "claimOnly", fn := fun _ => fun
  | [d1, d2, d3] => { results := [.lit (.bool false)], args := [d1, d2, d3] }
  | _ => none }
def ClaimOnlyWrongFalsely : Prop := claimOnlyRow.holds Tryd.pinned (OpenSpec.ofChange claimOnlyWrong)

/-- 'foretellkeep.ClaimStuck': WHATEVER THE INPUT: true; the input reads as it did. -/
def claimStuckSpec : ChangeSpec := { name := "claimStuck", fn := fun _ => fun
  | [d1, d2, d3] => { results := [.lit (.bool true)], args := [d1, d2, d3] }
  | _ => none }
def claimStuckRow : OpenClaim := { program := "ytffjhhpikgodiaadoor", sum := "b8f7f38a2c14f990347ae496ae48f5094609a00220ea1cd9390a10ad192f8bac", func := "foretell/foretellkeep.ClaimStuck", spec := "claimStuck", unfollowed := true, recurses := true, named := ["foretell/polish.parts"], apart := false, laid := [("foretell/polish.parts", laid_foretell_polish_parts)] }
def ClaimStuckSaid : Prop := claimStuckRow.holds Tryd.pinned (OpenSpec.ofChange claimStuckSpec)

/-- ITS FALSE NEIGHBOUR: 'it returns false'. Refute it at one input. -/
def claimStuckWrong : ChangeSpec := { name := "claimStuck", fn := fun _ => fun
  | [d1, d2, d3] => { results := [.lit (.bool false)], args := [d1, d2, d3] }
  | _ => none }
def ClaimStuckWrongFalsely : Prop := claimStuckRow.holds Tryd.pinned (OpenSpec.ofChange claimStuckWrong)

/-- 'foretellkeep.ClaimLine': WHATEVER THE INPUT: true; the input reads as it did. -/
def claimLineSpec : ChangeSpec := { name := "claimLine", fn := fun _ => fun
  | [d1, d2] => { results := [.lit (.bool true)], args := [d1, d2] }
  | _ => none }
def claimLineRow : OpenClaim := { program := "ytffjhhpikgodiaadoor", sum := "b8f7f38a2c14f990347ae496ae48f5094609a00220ea1cd9390a10ad192f8bac", func := "foretell/foretellkeep.ClaimLine", spec := "claimLine", unfollowed := true, recurses := true, named := ["foretell/polish.parts"], apart := false, laid := [("foretell/polish.parts", laid_foretell_polish_parts)] }
def ClaimLineSaid : Prop := claimLineRow.holds Tryd.pinned (OpenSpec.ofChange claimLineSpec)

/-- ITS FALSE NEIGHBOUR: 'it returns false'. Refute it at one input. -/
def claimLineWrong : ChangeSpec := { name := "claimLine", fn := fun _ => fun
  | [d1, d2] => { results := [.lit (.bool false)], args := [d1, d2] }
  | _ => none }
def ClaimLineWrongFalsely : Prop := claimLineRow.holds Tryd.pinned (OpenSpec.ofChange claimLineWrong)

/- THE SECOND FORM. 'bulk': how many values and letters a reading holds, each counted each time it is reached (what is shared counts as often as it is met; a slice's spare places count too). A statement '..UptoSaid' is the law's where the arguments, and the package variables that the reading takes, are together of bulk at most 1048576: NARROWER than '..Said'. Prove '..Said' where nothing that the law and all that it calls make is longer than what came in: it says more and counts as full. Else prove '..UptoSaid'. A law counts once. -/
mutual
def uptoBulk {H : Type} : DataW H → Nat
  | .lit (.string bytes) => bytes.length + 1
  | .lit _ => 1
  | .nil => 1
  | .ptr d => uptoBulk d + 1
  | .slice elems spare => uptoBulkAll elems + uptoBulkAll spare + 1
  | .agg parts => uptoBulkAll parts + 1
  | .iface _ d => uptoBulk d + 1
  | .map entries => uptoBulkEntries entries + 1
  | .held _ => 1
def uptoBulkAll {H : Type} : List (DataW H) → Nat
  | [] => 0
  | d :: r => uptoBulk d + uptoBulkAll r
def uptoBulkEntries {H : Type} : List (Lit × DataW H) → Nat
  | [] => 0
  | x :: r => uptoBulkEntry x + uptoBulkEntries r
def uptoBulkEntry {H : Type} : Lit × DataW H → Nat
  | (.string bytes, d) => bytes.length + uptoBulk d + 1
  | (_, d) => uptoBulk d + 1
 end
def uptoSmall : (H : Type) → List (DataW H) → Bool := fun _ ds => decide (uptoBulkAll ds ≤ 1048576)
def OpenSpec.upto (s : _root_.Go.ChangeSpec) : _root_.Go.OpenSpec := { _root_.Go.OpenSpec.ofChange s with cond := some uptoSmall }

/-- 'foretellkeep.TruthTurns', WHERE WHAT IT READS IS OF BULK AT MOST 1048576: true; the input reads as it did. -/
def truthTurnsUptoRow : OpenClaim := { program := "ytffjhhpikgodiaadoor", sum := "b8f7f38a2c14f990347ae496ae48f5094609a00220ea1cd9390a10ad192f8bac", func := "foretell/foretellkeep.TruthTurns", spec := "truthTurns", unfollowed := true, recurses := true, named := ["foretell/polish.parts"], apart := false, laid := [("foretell/polish.parts", laid_foretell_polish_parts)], narrowed := true }
def TruthTurnsUptoSaid : Prop := truthTurnsUptoRow.holds Tryd.pinned (OpenSpec.upto truthTurnsSpec)

/-- 'foretellkeep.MeetsAll', WHERE WHAT IT READS IS OF BULK AT MOST 1048576: true; the input reads as it did. -/
def meetsAllUptoRow : OpenClaim := { program := "ytffjhhpikgodiaadoor", sum := "b8f7f38a2c14f990347ae496ae48f5094609a00220ea1cd9390a10ad192f8bac", func := "foretell/foretellkeep.MeetsAll", spec := "meetsAll", unfollowed := true, recurses := true, named := ["foretell/polish.parts"], apart := false, laid := [("foretell/polish.parts", laid_foretell_polish_parts)], narrowed := true }
def MeetsAllUptoSaid : Prop := meetsAllUptoRow.holds Tryd.pinned (OpenSpec.upto meetsAllSpec)

/-- 'foretellkeep.WordNow', WHERE WHAT IT READS IS OF BULK AT MOST 1048576: true; the input reads as it did. -/
def wordNowUptoRow : OpenClaim := { program := "ytffjhhpikgodiaadoor", sum := "b8f7f38a2c14f990347ae496ae48f5094609a00220ea1cd9390a10ad192f8bac", func := "foretell/foretellkeep.WordNow", spec := "wordNow", unfollowed := true, recurses := true, named := ["foretell/polish.parts"], apart := false, laid := [("foretell/polish.parts", laid_foretell_polish_parts)], narrowed := true }
def WordNowUptoSaid : Prop := wordNowUptoRow.holds Tryd.pinned (OpenSpec.upto wordNowSpec)

/-- 'foretellkeep.WordLoop', WHERE WHAT IT READS IS OF BULK AT MOST 1048576: true; the input reads as it did. -/
def wordLoopUptoRow : OpenClaim := { program := "ytffjhhpikgodiaadoor", sum := "b8f7f38a2c14f990347ae496ae48f5094609a00220ea1cd9390a10ad192f8bac", func := "foretell/foretellkeep.WordLoop", spec := "wordLoop", unfollowed := true, recurses := true, named := ["foretell/polish.parts"], apart := false, laid := [("foretell/polish.parts", laid_foretell_polish_parts)], narrowed := true }
def WordLoopUptoSaid : Prop := wordLoopUptoRow.holds Tryd.pinned (OpenSpec.upto wordLoopSpec)

/-- 'foretellkeep.WordNot', WHERE WHAT IT READS IS OF BULK AT MOST 1048576: true; the input reads as it did. -/
def wordNotUptoRow : OpenClaim := { program := "ytffjhhpikgodiaadoor", sum := "b8f7f38a2c14f990347ae496ae48f5094609a00220ea1cd9390a10ad192f8bac", func := "foretell/foretellkeep.WordNot", spec := "wordNot", unfollowed := true, recurses := true, named := ["foretell/polish.parts"], apart := false, laid := [("foretell/polish.parts", laid_foretell_polish_parts)], narrowed := true }
def WordNotUptoSaid : Prop := wordNotUptoRow.holds Tryd.pinned (OpenSpec.upto wordNotSpec)

/-- 'foretellkeep.WordDual', WHERE WHAT IT READS IS OF BULK AT MOST 1048576: true; the input reads as it did. -/
def wordDualUptoRow : OpenClaim := { program := "ytffjhhpikgodiaadoor", sum := "b8f7f38a2c14f990347ae496ae48f5094609a00220ea1cd9390a10ad192f8bac", func := "foretell/foretellkeep.WordDual", spec := "wordDual", unfollowed := true, recurses := true, named := ["foretell/polish.parts"], apart := false, laid := [("foretell/polish.parts", laid_foretell_polish_parts)], narrowed := true }
def WordDualUptoSaid : Prop := wordDualUptoRow.holds Tryd.pinned (OpenSpec.upto wordDualSpec)

/-- 'foretellkeep.WordLonger', WHERE WHAT IT READS IS OF BULK AT MOST 1048576: true; the input reads as it did. -/
def wordLongerUptoRow : OpenClaim := { program := "ytffjhhpikgodiaadoor", sum := "b8f7f38a2c14f990347ae496ae48f5094609a00220ea1cd9390a10ad192f8bac", func := "foretell/foretellkeep.WordLonger", spec := "wordLonger", unfollowed := true, recurses := true, named := ["foretell/polish.parts"], apart := false, laid := [("foretell/polish.parts", laid_foretell_polish_parts)], narrowed := true }
def WordLongerUptoSaid : Prop := wordLongerUptoRow.holds Tryd.pinned (OpenSpec.upto wordLongerSpec)

/-- 'foretellkeep.WordShift', WHERE WHAT IT READS IS OF BULK AT MOST 1048576: true; the input reads as it did. -/
def wordShiftUptoRow : OpenClaim := { program := "ytffjhhpikgodiaadoor", sum := "b8f7f38a2c14f990347ae496ae48f5094609a00220ea1cd9390a10ad192f8bac", func := "foretell/foretellkeep.WordShift", spec := "wordShift", unfollowed := true, recurses := true, named := ["foretell/polish.parts"], apart := false, laid := [("foretell/polish.parts", laid_foretell_polish_parts)], narrowed := true }
def WordShiftUptoSaid : Prop := wordShiftUptoRow.holds Tryd.pinned (OpenSpec.upto wordShiftSpec)

/-- 'foretellkeep.WordSpread', WHERE WHAT IT READS IS OF BULK AT MOST 1048576: true; the input reads as it did. -/
def wordSpreadUptoRow : OpenClaim := { program := "ytffjhhpikgodiaadoor", sum := "b8f7f38a2c14f990347ae496ae48f5094609a00220ea1cd9390a10ad192f8bac", func := "foretell/foretellkeep.WordSpread", spec := "wordSpread", unfollowed := true, recurses := true, named := ["foretell/polish.parts"], apart := false, laid := [("foretell/polish.parts", laid_foretell_polish_parts)], narrowed := true }
def WordSpreadUptoSaid : Prop := wordSpreadUptoRow.holds Tryd.pinned (OpenSpec.upto wordSpreadSpec)

/-- 'foretellkeep.WordNest', WHERE WHAT IT READS IS OF BULK AT MOST 1048576: true; the input reads as it did. -/
def wordNestUptoRow : OpenClaim := { program := "ytffjhhpikgodiaadoor", sum := "b8f7f38a2c14f990347ae496ae48f5094609a00220ea1cd9390a10ad192f8bac", func := "foretell/foretellkeep.WordNest", spec := "wordNest", unfollowed := true, recurses := true, named := ["foretell/polish.parts"], apart := false, laid := [("foretell/polish.parts", laid_foretell_polish_parts)], narrowed := true }
def WordNestUptoSaid : Prop := wordNestUptoRow.holds Tryd.pinned (OpenSpec.upto wordNestSpec)

/-- 'foretellkeep.ClaimOnly', WHERE WHAT IT READS IS OF BULK AT MOST 1048576: true; the input reads as it did. -/
def claimOnlyUptoRow : OpenClaim := { program := "ytffjhhpikgodiaadoor", sum := "b8f7f38a2c14f990347ae496ae48f5094609a00220ea1cd9390a10ad192f8bac", func := "foretell/foretellkeep.ClaimOnly", spec := "claimOnly", unfollowed := true, recurses := true, named := ["foretell/polish.parts"], apart := false, laid := [("foretell/polish.parts", laid_foretell_polish_parts)], narrowed := true }
def ClaimOnlyUptoSaid : Prop := claimOnlyUptoRow.holds Tryd.pinned (OpenSpec.upto claimOnlySpec)

/-- 'foretellkeep.ClaimStuck', WHERE WHAT IT READS IS OF BULK AT MOST 1048576: true; the input reads as it did. -/
def claimStuckUptoRow : OpenClaim := { program := "ytffjhhpikgodiaadoor", sum := "b8f7f38a2c14f990347ae496ae48f5094609a00220ea1cd9390a10ad192f8bac", func := "foretell/foretellkeep.ClaimStuck", spec := "claimStuck", unfollowed := true, recurses := true, named := ["foretell/polish.parts"], apart := false, laid := [("foretell/polish.parts", laid_foretell_polish_parts)], narrowed := true }
def ClaimStuckUptoSaid : Prop := claimStuckUptoRow.holds Tryd.pinned (OpenSpec.upto claimStuckSpec)

/-- 'foretellkeep.ClaimLine', WHERE WHAT IT READS IS OF BULK AT MOST 1048576: true; the input reads as it did. -/
def claimLineUptoRow : OpenClaim := { program := "ytffjhhpikgodiaadoor", sum := "b8f7f38a2c14f990347ae496ae48f5094609a00220ea1cd9390a10ad192f8bac", func := "foretell/foretellkeep.ClaimLine", spec := "claimLine", unfollowed := true, recurses := true, named := ["foretell/polish.parts"], apart := false, laid := [("foretell/polish.parts", laid_foretell_polish_parts)], narrowed := true }
def ClaimLineUptoSaid : Prop := claimLineUptoRow.holds Tryd.pinned (OpenSpec.upto claimLineSpec)

end Rows
end Go.Proofs.YtffjhhpikgodiaaDoor
