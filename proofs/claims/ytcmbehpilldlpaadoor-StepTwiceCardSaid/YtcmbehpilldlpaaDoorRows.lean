/-
  NARROWER THAN 'FOR EVERY INPUT', by the rows' own cells (each row's printed sentence says how): ModelTwice: laid · ModelSpan: laid · CodeOrder: laid · CodeBack: laid · CodeOut: laid · LetterSays: laid · NextUp: laid · StepTwice: laid · NextAfter: laid · StepStay: laid · ReachClosed: laid.
  DERIVED. THE GIVEN ROWS OF THIS SEAT. 11 by the template 'for every input the law returns true; each argument reads behind the call as it read before'; 0 by the template 'total and deterministic' (their statements: YtcmbehpilldlpaaDoorTotals.lean).
  GIVEN WITH THE SEED: the statements are not yours to turn. If you find one false, say at which input.
  Laid BY PROGRAM, IN A SANDBOX (cutbox-rows.mjs): the forced cells as the released guide's own fill.sh prints them over the translation 1a89a70a3aa25af5… (all of the seat's roots in one cut). By AI agents, Wed Nov 11 2026. No macro, syntax, notation, axiom, sorry.
-/
import Derived.Test.YtcmbehpilldlpaaDoorChecked
import GoSem.Claim
import GoSem.ClaimJoined
import GoSem.ClaimMapViews
import Derived.JoinedTies
import Derived.KernelRfl
namespace Go.Proofs.YtcmbehpilldlpaaDoor
/- THE CELL 'sum', in the pinned program and in every row, IS THE sha256 OF THE DUMP (.gsa) THAT YtcmbehpilldlpaaDoorProg.lean LOADS. Nothing in Lean hashes anything: it is a label: what it is worth is what the hold of that sum in a sandbox is worth. -/
noncomputable def Tryd.pinned : Pinned := { name := "ytcmbehpilldlpaadoor", sum := "1a89a70a3aa25af51fdf4919489957467cf174067acf49047b97e0f51f126d2c", checked := Tryd.checked }
namespace Rows
def none {H : Type} : Left H := { results := [], args := [] }

/- WHAT THE LISTED PACKAGE-LEVEL VARIABLES READ AS WHEN THE CALL BEGINS. Each datum BY PROGRAM (the guide's laid-datum.mjs) off the statement by which the dump's own 'gosem.cut.vars' lays the variable. In a bare row this is a premise. The card (YtcmbehpilldlpaaDoorCards.lean) ties it to the program's text. -/
def laid_foretell_polish_parts {H : Type} : DataW H := .agg [.lit (.int .i64 (-1)), .lit (.int .i64 0), .lit (.int .i64 0), .lit (.int .i64 2), .lit (.int .i64 2), .lit (.int .i64 2), .lit (.int .i64 2), .lit (.int .i64 2), .lit (.int .i64 2), .lit (.int .i64 2), .lit (.int .i64 1), .lit (.int .i64 0), .lit (.int .i64 0), .lit (.int .i64 0), .lit (.int .i64 1), .lit (.int .i64 2), .lit (.int .i64 2), .lit (.int .i64 1), .lit (.int .i64 1)]

/-- 'foretellkeep.ModelTwice': WHATEVER THE INPUT: true; the input reads as it did. -/
def modelTwiceSpec : ChangeSpec := { name := "modelTwice", fn := fun _ => fun
  | [d1, d2] => { results := [.lit (.bool true)], args := [d1, d2] }
  | _ => none }
def modelTwiceRow : OpenClaim := { program := "ytcmbehpilldlpaadoor", sum := "1a89a70a3aa25af51fdf4919489957467cf174067acf49047b97e0f51f126d2c", func := "foretell/foretellkeep.ModelTwice", spec := "modelTwice", unfollowed := true, recurses := true, named := ["foretell/polish.parts"], apart := false, laid := [("foretell/polish.parts", laid_foretell_polish_parts)] }
def ModelTwiceSaid : Prop := modelTwiceRow.holds Tryd.pinned (OpenSpec.ofChange modelTwiceSpec)

/-- ITS FALSE NEIGHBOUR: 'it returns false'. Refute it at one input. -/
def modelTwiceWrong : ChangeSpec := { name := "modelTwice", fn := fun _ => fun
  | [d1, d2] => { results := [.lit (.bool false)], args := [d1, d2] }
  | _ => none }
def ModelTwiceWrongFalsely : Prop := modelTwiceRow.holds Tryd.pinned (OpenSpec.ofChange modelTwiceWrong)

/-- 'foretellkeep.ModelSpan': WHATEVER THE INPUT: true; the input reads as it did. -/
def modelSpanSpec : ChangeSpec := { name := "modelSpan", fn := fun _ => fun
  | [d1, d2] => { results := [.lit (.bool true)], args := [d1, d2] }
  | _ => none }
def modelSpanRow : OpenClaim := { program := "ytcmbehpilldlpaadoor", sum := "1a89a70a3aa25af51fdf4919489957467cf174067acf49047b97e0f51f126d2c", func := "foretell/foretellkeep.ModelSpan", spec := "modelSpan", unfollowed := true, recurses := true, named := ["foretell/polish.parts"], apart := false, laid := [("foretell/polish.parts", laid_foretell_polish_parts)] }
def ModelSpanSaid : Prop := modelSpanRow.holds Tryd.pinned (OpenSpec.ofChange modelSpanSpec)

/-- ITS FALSE NEIGHBOUR: 'it returns false'. Refute it at one input. -/
def modelSpanWrong : ChangeSpec := { name := "modelSpan", fn := fun _ => fun
  | [d1, d2] => { results := [.lit (.bool false)], args := [d1, d2] }
  | _ => none }
def ModelSpanWrongFalsely : Prop := modelSpanRow.holds Tryd.pinned (OpenSpec.ofChange modelSpanWrong)

/-- 'foretellkeep.CodeOrder': WHATEVER THE INPUT: true; the input reads as it did. -/
def codeOrderSpec : ChangeSpec := { name := "codeOrder", fn := fun _ => fun
  | [d1, d2, d3] => { results := [.lit (.bool true)], args := [d1, d2, d3] }
  | _ => none }
def codeOrderRow : OpenClaim := { program := "ytcmbehpilldlpaadoor", sum := "1a89a70a3aa25af51fdf4919489957467cf174067acf49047b97e0f51f126d2c", func := "foretell/foretellkeep.CodeOrder", spec := "codeOrder", unfollowed := true, recurses := true, named := ["foretell/polish.parts"], apart := false, laid := [("foretell/polish.parts", laid_foretell_polish_parts)] }
def CodeOrderSaid : Prop := codeOrderRow.holds Tryd.pinned (OpenSpec.ofChange codeOrderSpec)

/-- ITS FALSE NEIGHBOUR: 'it returns false'. Refute it at one input. -/
def codeOrderWrong : ChangeSpec := { name := "codeOrder", fn := fun _ => fun
  | [d1, d2, d3] => { results := [.lit (.bool false)], args := [d1, d2, d3] }
  | _ => none }
def CodeOrderWrongFalsely : Prop := codeOrderRow.holds Tryd.pinned (OpenSpec.ofChange codeOrderWrong)

/-- 'foretellkeep.CodeBack': WHATEVER THE INPUT: true; the input reads as it did. -/
def codeBackSpec : ChangeSpec := { name := "codeBack", fn := fun _ => fun
  | [d1, d2] => { results := [.lit (.bool true)], args := [d1, d2] }
  | _ => none }
def codeBackRow : OpenClaim := { program := "ytcmbehpilldlpaadoor", sum := "1a89a70a3aa25af51fdf4919489957467cf174067acf49047b97e0f51f126d2c", func := "foretell/foretellkeep.CodeBack", spec := "codeBack", unfollowed := true, recurses := true, named := ["foretell/polish.parts"], apart := false, laid := [("foretell/polish.parts", laid_foretell_polish_parts)] }
def CodeBackSaid : Prop := codeBackRow.holds Tryd.pinned (OpenSpec.ofChange codeBackSpec)

/-- ITS FALSE NEIGHBOUR: 'it returns false'. Refute it at one input. -/
def codeBackWrong : ChangeSpec := { name := "codeBack", fn := fun _ => fun
  | [d1, d2] => { results := [.lit (.bool false)], args := [d1, d2] }
  | _ => none }
def CodeBackWrongFalsely : Prop := codeBackRow.holds Tryd.pinned (OpenSpec.ofChange codeBackWrong)

/-- 'foretellkeep.CodeOut': WHATEVER THE INPUT: true; the input reads as it did. -/
def codeOutSpec : ChangeSpec := { name := "codeOut", fn := fun _ => fun
  | [d1, d2, d3] => { results := [.lit (.bool true)], args := [d1, d2, d3] }
  | _ => none }
def codeOutRow : OpenClaim := { program := "ytcmbehpilldlpaadoor", sum := "1a89a70a3aa25af51fdf4919489957467cf174067acf49047b97e0f51f126d2c", func := "foretell/foretellkeep.CodeOut", spec := "codeOut", unfollowed := true, recurses := true, named := ["foretell/polish.parts"], apart := false, laid := [("foretell/polish.parts", laid_foretell_polish_parts)] }
def CodeOutSaid : Prop := codeOutRow.holds Tryd.pinned (OpenSpec.ofChange codeOutSpec)

/-- ITS FALSE NEIGHBOUR: 'it returns false'. Refute it at one input. -/
def codeOutWrong : ChangeSpec := { name := "codeOut", fn := fun _ => fun
  | [d1, d2, d3] => { results := [.lit (.bool false)], args := [d1, d2, d3] }
  | _ => none }
def CodeOutWrongFalsely : Prop := codeOutRow.holds Tryd.pinned (OpenSpec.ofChange codeOutWrong)

/-- 'foretellkeep.LetterSays': WHATEVER THE INPUT: true; the input reads as it did. -/
def letterSaysSpec : ChangeSpec := { name := "letterSays", fn := fun _ => fun
  | [d1, d2] => { results := [.lit (.bool true)], args := [d1, d2] }
  | _ => none }
def letterSaysRow : OpenClaim := { program := "ytcmbehpilldlpaadoor", sum := "1a89a70a3aa25af51fdf4919489957467cf174067acf49047b97e0f51f126d2c", func := "foretell/foretellkeep.LetterSays", spec := "letterSays", unfollowed := true, recurses := true, named := ["foretell/polish.parts"], apart := false, laid := [("foretell/polish.parts", laid_foretell_polish_parts)] }
def LetterSaysSaid : Prop := letterSaysRow.holds Tryd.pinned (OpenSpec.ofChange letterSaysSpec)

/-- ITS FALSE NEIGHBOUR: 'it returns false'. Refute it at one input. -/
def letterSaysWrong : ChangeSpec := { name := "letterSays", fn := fun _ => fun
  | [d1, d2] => { results := [.lit (.bool false)], args := [d1, d2] }
  | _ => none }
def LetterSaysWrongFalsely : Prop := letterSaysRow.holds Tryd.pinned (OpenSpec.ofChange letterSaysWrong)

/-- 'foretellkeep.NextUp': WHATEVER THE INPUT: true; the input reads as it did. -/
def nextUpSpec : ChangeSpec := { name := "nextUp", fn := fun _ => fun
  | [d1, d2] => { results := [.lit (.bool true)], args := [d1, d2] }
  | _ => none }
def nextUpRow : OpenClaim := { program := "ytcmbehpilldlpaadoor", sum := "1a89a70a3aa25af51fdf4919489957467cf174067acf49047b97e0f51f126d2c", func := "foretell/foretellkeep.NextUp", spec := "nextUp", unfollowed := true, recurses := true, named := ["foretell/polish.parts"], apart := false, laid := [("foretell/polish.parts", laid_foretell_polish_parts)] }
def NextUpSaid : Prop := nextUpRow.holds Tryd.pinned (OpenSpec.ofChange nextUpSpec)

/-- ITS FALSE NEIGHBOUR: 'it returns false'. Refute it at one input. -/
def nextUpWrong : ChangeSpec := { name := "nextUp", fn := fun _ => fun
  | [d1, d2] => { results := [.lit (.bool false)], args := [d1, d2] }
  | _ => none }
def NextUpWrongFalsely : Prop := nextUpRow.holds Tryd.pinned (OpenSpec.ofChange nextUpWrong)

/-- 'foretellkeep.StepTwice': WHATEVER THE INPUT: true; the input reads as it did. -/
def stepTwiceSpec : ChangeSpec := { name := "stepTwice", fn := fun _ => fun
  | [d1, d2, d3] => { results := [.lit (.bool true)], args := [d1, d2, d3] }
  | _ => none }
def stepTwiceRow : OpenClaim := { program := "ytcmbehpilldlpaadoor", sum := "1a89a70a3aa25af51fdf4919489957467cf174067acf49047b97e0f51f126d2c", func := "foretell/foretellkeep.StepTwice", spec := "stepTwice", unfollowed := true, recurses := true, named := ["foretell/polish.parts"], apart := false, laid := [("foretell/polish.parts", laid_foretell_polish_parts)] }
def StepTwiceSaid : Prop := stepTwiceRow.holds Tryd.pinned (OpenSpec.ofChange stepTwiceSpec)

/-- ITS FALSE NEIGHBOUR: 'it returns false'. Refute it at one input. -/
def stepTwiceWrong : ChangeSpec := { name := "stepTwice", fn := fun _ => fun
  | [d1, d2, d3] => { results := [.lit (.bool false)], args := [d1, d2, d3] }
  | _ => none }
def StepTwiceWrongFalsely : Prop := stepTwiceRow.holds Tryd.pinned (OpenSpec.ofChange stepTwiceWrong)

/-- 'foretellkeep.NextAfter': WHATEVER THE INPUT: true; the input reads as it did. -/
def nextAfterSpec : ChangeSpec := { name := "nextAfter", fn := fun _ => fun
  | [d1, d2] => { results := [.lit (.bool true)], args := [d1, d2] }
  | _ => none }
def nextAfterRow : OpenClaim := { program := "ytcmbehpilldlpaadoor", sum := "1a89a70a3aa25af51fdf4919489957467cf174067acf49047b97e0f51f126d2c", func := "foretell/foretellkeep.NextAfter", spec := "nextAfter", unfollowed := true, recurses := true, named := ["foretell/polish.parts"], apart := false, laid := [("foretell/polish.parts", laid_foretell_polish_parts)] }
def NextAfterSaid : Prop := nextAfterRow.holds Tryd.pinned (OpenSpec.ofChange nextAfterSpec)

/-- ITS FALSE NEIGHBOUR: 'it returns false'. Refute it at one input. -/
def nextAfterWrong : ChangeSpec := { name := "nextAfter", fn := fun _ => fun
  | [d1, d2] => { results := [.lit (.bool false)], args := [d1, d2] }
  | _ => none }
def NextAfterWrongFalsely : Prop := nextAfterRow.holds Tryd.pinned (OpenSpec.ofChange nextAfterWrong)

/-- 'foretellkeep.StepStay': WHATEVER THE INPUT: true; the input reads as it did. -/
def stepStaySpec : ChangeSpec := { name := "stepStay", fn := fun _ => fun
  | [d1, d2] => { results := [.lit (.bool true)], args := [d1, d2] }
  | _ => none }
def stepStayRow : OpenClaim := { program := "ytcmbehpilldlpaadoor", sum := "1a89a70a3aa25af51fdf4919489957467cf174067acf49047b97e0f51f126d2c", func := "foretell/foretellkeep.StepStay", spec := "stepStay", unfollowed := true, recurses := true, named := ["foretell/polish.parts"], apart := false, laid := [("foretell/polish.parts", laid_foretell_polish_parts)] }
def StepStaySaid : Prop := stepStayRow.holds Tryd.pinned (OpenSpec.ofChange stepStaySpec)

/-- ITS FALSE NEIGHBOUR: 'it returns false'. Refute it at one input. -/
def stepStayWrong : ChangeSpec := { name := "stepStay", fn := fun _ => fun
  | [d1, d2] => { results := [.lit (.bool false)], args := [d1, d2] }
  | _ => none }
def StepStayWrongFalsely : Prop := stepStayRow.holds Tryd.pinned (OpenSpec.ofChange stepStayWrong)

/-- 'foretellkeep.ReachClosed': WHATEVER THE INPUT: true; the input reads as it did. -/
def reachClosedSpec : ChangeSpec := { name := "reachClosed", fn := fun _ => fun
  | [d] => { results := [.lit (.bool true)], args := [d] }
  | _ => none }
def reachClosedRow : OpenClaim := { program := "ytcmbehpilldlpaadoor", sum := "1a89a70a3aa25af51fdf4919489957467cf174067acf49047b97e0f51f126d2c", func := "foretell/foretellkeep.ReachClosed", spec := "reachClosed", unfollowed := true, recurses := true, named := ["foretell/polish.parts"], apart := false, laid := [("foretell/polish.parts", laid_foretell_polish_parts)] }
def ReachClosedSaid : Prop := reachClosedRow.holds Tryd.pinned (OpenSpec.ofChange reachClosedSpec)

/-- ITS FALSE NEIGHBOUR: 'it returns false'. Refute it at one input. -/
def reachClosedWrong : ChangeSpec := { name := "reachClosed", fn := fun _ => fun
  | [d] => { results := [.lit (.bool false)], args := [d] }
  | _ => none }
def ReachClosedWrongFalsely : Prop := reachClosedRow.holds Tryd.pinned (OpenSpec.ofChange reachClosedWrong)

/- THE SECOND FORM. 'bulk': how many values and letters a reading holds, each counted each time it is reached (what is shared counts as often as it is met; a slice's spare places count too). A statement '..UptoSaid' is the law's where the arguments, and the package variables that the reading takes, are together of bulk at most 1048576: NARROWER than '..Said'. Prove '..Said' where nothing that the law and all that it calls make is longer than what came in: it says more and counts as full. Else prove '..UptoSaid'. A law counts once. -/
mutual
def uptoBulk {H : Type} : DataW H → Nat
  | .lit (.string bytes) => bytes.length + 1
  | .lit _ => 1
  | .nil => 1
  | .ptr d => uptoBulk d + 1
  | .slice elems spare => uptoBulkAll elems + uptoBulkAll spare + 1
  | .agg parts => uptoBulkAll parts + 1
  | .iface _ d => uptoBulk d + 1
  | .map entries => uptoBulkEntries entries + 1
  | .held _ => 1
def uptoBulkAll {H : Type} : List (DataW H) → Nat
  | [] => 0
  | d :: r => uptoBulk d + uptoBulkAll r
def uptoBulkEntries {H : Type} : List (Lit × DataW H) → Nat
  | [] => 0
  | x :: r => uptoBulkEntry x + uptoBulkEntries r
def uptoBulkEntry {H : Type} : Lit × DataW H → Nat
  | (.string bytes, d) => bytes.length + uptoBulk d + 1
  | (_, d) => uptoBulk d + 1
 end
def uptoSmall : (H : Type) → List (DataW H) → Bool := fun _ ds => decide (uptoBulkAll ds ≤ 1048576)
def OpenSpec.upto (s : _root_.Go.ChangeSpec) : _root_.Go.OpenSpec := { _root_.Go.OpenSpec.ofChange s with cond := some uptoSmall }

/-- 'foretellkeep.ModelTwice', WHERE WHAT IT READS IS OF BULK AT MOST 1048576: true; the input reads as it did. -/
def modelTwiceUptoRow : OpenClaim := { program := "ytcmbehpilldlpaadoor", sum := "1a89a70a3aa25af51fdf4919489957467cf174067acf49047b97e0f51f126d2c", func := "foretell/foretellkeep.ModelTwice", spec := "modelTwice", unfollowed := true, recurses := true, named := ["foretell/polish.parts"], apart := false, laid := [("foretell/polish.parts", laid_foretell_polish_parts)], narrowed := true }
def ModelTwiceUptoSaid : Prop := modelTwiceUptoRow.holds Tryd.pinned (OpenSpec.upto modelTwiceSpec)

/-- 'foretellkeep.ModelSpan', WHERE WHAT IT READS IS OF BULK AT MOST 1048576: true; the input reads as it did. -/
def modelSpanUptoRow : OpenClaim := { program := "ytcmbehpilldlpaadoor", sum := "1a89a70a3aa25af51fdf4919489957467cf174067acf49047b97e0f51f126d2c", func := "foretell/foretellkeep.ModelSpan", spec := "modelSpan", unfollowed := true, recurses := true, named := ["foretell/polish.parts"], apart := false, laid := [("foretell/polish.parts", laid_foretell_polish_parts)], narrowed := true }
def ModelSpanUptoSaid : Prop := modelSpanUptoRow.holds Tryd.pinned (OpenSpec.upto modelSpanSpec)

/-- 'foretellkeep.CodeOrder', WHERE WHAT IT READS IS OF BULK AT MOST 1048576: true; the input reads as it did. -/
def codeOrderUptoRow : OpenClaim := { program := "ytcmbehpilldlpaadoor", sum := "1a89a70a3aa25af51fdf4919489957467cf174067acf49047b97e0f51f126d2c", func := "foretell/foretellkeep.CodeOrder", spec := "codeOrder", unfollowed := true, recurses := true, named := ["foretell/polish.parts"], apart := false, laid := [("foretell/polish.parts", laid_foretell_polish_parts)], narrowed := true }
def CodeOrderUptoSaid : Prop := codeOrderUptoRow.holds Tryd.pinned (OpenSpec.upto codeOrderSpec)

/-- 'foretellkeep.CodeBack', WHERE WHAT IT READS IS OF BULK AT MOST 1048576: true; the input reads as it did. -/
def codeBackUptoRow : OpenClaim := { program := "ytcmbehpilldlpaadoor", sum := "1a89a70a3aa25af51fdf4919489957467cf174067acf49047b97e0f51f126d2c", func := "foretell/foretellkeep.CodeBack", spec := "codeBack", unfollowed := true, recurses := true, named := ["foretell/polish.parts"], apart := false, laid := [("foretell/polish.parts", laid_foretell_polish_parts)], narrowed := true }
def CodeBackUptoSaid : Prop := codeBackUptoRow.holds Tryd.pinned (OpenSpec.upto codeBackSpec)

/-- 'foretellkeep.CodeOut', WHERE WHAT IT READS IS OF BULK AT MOST 1048576: true; the input reads as it did. -/
def codeOutUptoRow : OpenClaim := { program := "ytcmbehpilldlpaadoor", sum := "1a89a70a3aa25af51fdf4919489957467cf174067acf49047b97e0f51f126d2c", func := "foretell/foretellkeep.CodeOut", spec := "codeOut", unfollowed := true, recurses := true, named := ["foretell/polish.parts"], apart := false, laid := [("foretell/polish.parts", laid_foretell_polish_parts)], narrowed := true }
def CodeOutUptoSaid : Prop := codeOutUptoRow.holds Tryd.pinned (OpenSpec.upto codeOutSpec)

/-- 'foretellkeep.LetterSays', WHERE WHAT IT READS IS OF BULK AT MOST 1048576: true; the input reads as it did. -/
def letterSaysUptoRow : OpenClaim := { program := "ytcmbehpilldlpaadoor", sum := "1a89a70a3aa25af51fdf4919489957467cf174067acf49047b97e0f51f126d2c", func := "foretell/foretellkeep.LetterSays", spec := "letterSays", unfollowed := true, recurses := true, named := ["foretell/polish.parts"], apart := false, laid := [("foretell/polish.parts", laid_foretell_polish_parts)], narrowed := true }
def LetterSaysUptoSaid : Prop := letterSaysUptoRow.holds Tryd.pinned (OpenSpec.upto letterSaysSpec)

/-- 'foretellkeep.NextUp', WHERE WHAT IT READS IS OF BULK AT MOST 1048576: true; the input reads as it did. -/
def nextUpUptoRow : OpenClaim := { program := "ytcmbehpilldlpaadoor", sum := "1a89a70a3aa25af51fdf4919489957467cf174067acf49047b97e0f51f126d2c", func := "foretell/foretellkeep.NextUp", spec := "nextUp", unfollowed := true, recurses := true, named := ["foretell/polish.parts"], apart := false, laid := [("foretell/polish.parts", laid_foretell_polish_parts)], narrowed := true }
def NextUpUptoSaid : Prop := nextUpUptoRow.holds Tryd.pinned (OpenSpec.upto nextUpSpec)

/-- 'foretellkeep.StepTwice', WHERE WHAT IT READS IS OF BULK AT MOST 1048576: true; the input reads as it did. -/
def stepTwiceUptoRow : OpenClaim := { program := "ytcmbehpilldlpaadoor", sum := "1a89a70a3aa25af51fdf4919489957467cf174067acf49047b97e0f51f126d2c", func := "foretell/foretellkeep.StepTwice", spec := "stepTwice", unfollowed := true, recurses := true, named := ["foretell/polish.parts"], apart := false, laid := [("foretell/polish.parts", laid_foretell_polish_parts)], narrowed := true }
def StepTwiceUptoSaid : Prop := stepTwiceUptoRow.holds Tryd.pinned (OpenSpec.upto stepTwiceSpec)

/-- 'foretellkeep.NextAfter', WHERE WHAT IT READS IS OF BULK AT MOST 1048576: true; the input reads as it did. -/
def nextAfterUptoRow : OpenClaim := { program := "ytcmbehpilldlpaadoor", sum := "1a89a70a3aa25af51fdf4919489957467cf174067acf49047b97e0f51f126d2c", func := "foretell/foretellkeep.NextAfter", spec := "nextAfter", unfollowed := true, recurses := true, named := ["foretell/polish.parts"], apart := false, laid := [("foretell/polish.parts", laid_foretell_polish_parts)], narrowed := true }
def NextAfterUptoSaid : Prop := nextAfterUptoRow.holds Tryd.pinned (OpenSpec.upto nextAfterSpec)

/-- 'foretellkeep.StepStay', WHERE WHAT IT READS IS OF BULK AT MOST 1048576: true; the input reads as it did. -/
def stepStayUptoRow : OpenClaim := { program := "ytcmbehpilldlpaadoor", sum := "1a89a70a3aa25af51fdf4919489957467cf174067acf49047b97e0f51f126d2c", func := "foretell/foretellkeep.StepStay", spec := "stepStay", unfollowed := true, recurses := true, named := ["foretell/polish.parts"], apart := false, laid := [("foretell/polish.parts", laid_foretell_polish_parts)], narrowed := true }
def StepStayUptoSaid : Prop := stepStayUptoRow.holds Tryd.pinned (OpenSpec.upto stepStaySpec)

/-- 'foretellkeep.ReachClosed', WHERE WHAT IT READS IS OF BULK AT MOST 1048576: true; the input reads as it did. -/
def reachClosedUptoRow : OpenClaim := { program := "ytcmbehpilldlpaadoor", sum := "1a89a70a3aa25af51fdf4919489957467cf174067acf49047b97e0f51f126d2c", func := "foretell/foretellkeep.ReachClosed", spec := "reachClosed", unfollowed := true, recurses := true, named := ["foretell/polish.parts"], apart := false, laid := [("foretell/polish.parts", laid_foretell_polish_parts)], narrowed := true }
def ReachClosedUptoSaid : Prop := reachClosedUptoRow.holds Tryd.pinned (OpenSpec.upto reachClosedSpec)

end Rows
end Go.Proofs.YtcmbehpilldlpaaDoor
