/-
  NARROWER THAN 'FOR EVERY INPUT', by the rows' own cells (each row's printed sentence says how): WordNow: laid · WordShift: laid · WordLonger: laid.
  DERIVED. THE GIVEN ROWS OF THIS SEAT. 3 by the template 'for every input the law returns true; each argument reads behind the call as it read before'; 0 by the template 'total and deterministic' (their statements: YthkiegaifkkegaaDoorTotals.lean).
  GIVEN WITH THE SEED: the statements are not yours to turn. If you find one false, say at which input.
  Laid BY PROGRAM, IN A SANDBOX (cutbox-rows.mjs): the forced cells as the released guide's own fill.sh prints them over the translation 38faa209767fc576… (all of the seat's roots in one cut). By AI agents, Wed Nov 11 2026. No macro, syntax, notation, axiom, sorry.
-/
import Derived.Test.YthkiegaifkkegaaDoorChecked
import GoSem.Claim
import GoSem.ClaimJoined
import GoSem.ClaimMapViews
import Derived.JoinedTies
import Derived.KernelRfl
namespace Go.Proofs.YthkiegaifkkegaaDoor
/- THE CELL 'sum', in the pinned program and in every row, IS THE sha256 OF THE DUMP (.gsa) THAT YthkiegaifkkegaaDoorProg.lean LOADS. Nothing in Lean hashes anything: it is a label: what it is worth is what the hold of that sum in a sandbox is worth. -/
noncomputable def Tryd.pinned : Pinned := { name := "ythkiegaifkkegaadoor", sum := "38faa209767fc5760b9595516dd3bc508c947bbcb68f3314cb01c435b8731254", checked := Tryd.checked }
namespace Rows
def none {H : Type} : Left H := { results := [], args := [] }

/- WHAT THE LISTED PACKAGE-LEVEL VARIABLES READ AS WHEN THE CALL BEGINS. Each datum BY PROGRAM (the guide's laid-datum.mjs) off the statement by which the dump's own 'gosem.cut.vars' lays the variable. In a bare row this is a premise. The card (YthkiegaifkkegaaDoorCards.lean) ties it to the program's text. -/
def laid_foretell_polish_parts {H : Type} : DataW H := .agg [.lit (.int .i64 (-1)), .lit (.int .i64 0), .lit (.int .i64 0), .lit (.int .i64 2), .lit (.int .i64 2), .lit (.int .i64 2), .lit (.int .i64 2), .lit (.int .i64 2), .lit (.int .i64 2), .lit (.int .i64 2), .lit (.int .i64 1), .lit (.int .i64 0), .lit (.int .i64 0), .lit (.int .i64 0), .lit (.int .i64 1), .lit (.int .i64 2), .lit (.int .i64 2), .lit (.int .i64 1), .lit (.int .i64 1)]

/-- 'foretellkeep.WordNow': WHATEVER THE INPUT: true; the input reads as it did. -/
def wordNowSpec : ChangeSpec := { name := "wordNow", fn := fun _ => fun
  | [d1, d2, d3] => { results := [.lit (.bool true)], args := [d1, d2, d3] }
  | _ => none }
def wordNowRow : OpenClaim := { program := "ythkiegaifkkegaadoor", sum := "38faa209767fc5760b9595516dd3bc508c947bbcb68f3314cb01c435b8731254", func := "foretell/foretellkeep.WordNow", spec := "wordNow", unfollowed := true, recurses := true, named := ["foretell/polish.parts"], apart := false, laid := [("foretell/polish.parts", laid_foretell_polish_parts)] }
def WordNowSaid : Prop := wordNowRow.holds Tryd.pinned (OpenSpec.ofChange wordNowSpec)

/-- ITS FALSE NEIGHBOUR: 'it returns false'. Refute it at one input. -/
def wordNowWrong : ChangeSpec := { name := "wordNow", fn := fun _ => fun
  | [d1, d2, d3] => { results := [.lit (.bool false)], args := [d1, d2, d3] }
  | _ => none }
def WordNowWrongFalsely : Prop := wordNowRow.holds Tryd.pinned (OpenSpec.ofChange wordNowWrong)

/-- 'foretellkeep.WordShift': WHATEVER THE INPUT: true; the input reads as it did. -/
def wordShiftSpec : ChangeSpec := { name := "wordShift", fn := fun _ => fun
  | [d1, d2] => { results := [.lit (.bool true)], args := [d1, d2] }
  | _ => none }
def wordShiftRow : OpenClaim := { program := "ythkiegaifkkegaadoor", sum := "38faa209767fc5760b9595516dd3bc508c947bbcb68f3314cb01c435b8731254", func := "foretell/foretellkeep.WordShift", spec := "wordShift", unfollowed := true, recurses := true, named := ["foretell/polish.parts"], apart := false, laid := [("foretell/polish.parts", laid_foretell_polish_parts)] }
def WordShiftSaid : Prop := wordShiftRow.holds Tryd.pinned (OpenSpec.ofChange wordShiftSpec)

/-- ITS FALSE NEIGHBOUR: 'it returns false'. Refute it at one input. -/
def wordShiftWrong : ChangeSpec := { name := "wordShift", fn := fun _ => fun
  | [d1, d2] => { results := [.lit (.bool false)], args := [d1, d2] }
  | _ => none }
def WordShiftWrongFalsely : Prop := wordShiftRow.holds Tryd.pinned (OpenSpec.ofChange wordShiftWrong)

/-- 'foretellkeep.WordLonger': WHATEVER THE INPUT: true; the input reads as it did. -/
def wordLongerSpec : ChangeSpec := { name := "wordLonger", fn := fun _ => fun
  | [d1, d2] => { results := [.lit (.bool true)], args := [d1, d2] }
  | _ => none }
def wordLongerRow : OpenClaim := { program := "ythkiegaifkkegaadoor", sum := "38faa209767fc5760b9595516dd3bc508c947bbcb68f3314cb01c435b8731254", func := "foretell/foretellkeep.WordLonger", spec := "wordLonger", unfollowed := true, recurses := true, named := ["foretell/polish.parts"], apart := false, laid := [("foretell/polish.parts", laid_foretell_polish_parts)] }
def WordLongerSaid : Prop := wordLongerRow.holds Tryd.pinned (OpenSpec.ofChange wordLongerSpec)

/-- ITS FALSE NEIGHBOUR: 'it returns false'. Refute it at one input. -/
def wordLongerWrong : ChangeSpec := { name := "wordLonger", fn := fun _ => fun
  | [d1, d2] => { results := [.lit (.bool false)], args := [d1, d2] }
  | _ => none }
def WordLongerWrongFalsely : Prop := wordLongerRow.holds Tryd.pinned (OpenSpec.ofChange wordLongerWrong)

/- THE SECOND FORM. 'bulk': how many values and letters a reading holds, each counted each time it is reached (what is shared counts as often as it is met; a slice's spare places count too). A statement '..UptoSaid' is the law's where the arguments, and the package variables that the reading takes, are together of bulk at most 1048576: NARROWER than '..Said'. Prove '..Said' where nothing that the law and all that it calls make is longer than what came in: it says more and counts as full. Else prove '..UptoSaid'. A law counts once. -/
mutual
def uptoBulk {H : Type} : DataW H → Nat
  | .lit (.string bytes) => bytes.length + 1
  | .lit _ => 1
  | .nil => 1
  | .ptr d => uptoBulk d + 1
  | .slice elems spare => uptoBulkAll elems + uptoBulkAll spare + 1
  | .agg parts => uptoBulkAll parts + 1
  | .iface _ d => uptoBulk d + 1
  | .map entries => uptoBulkEntries entries + 1
  | .held _ => 1
def uptoBulkAll {H : Type} : List (DataW H) → Nat
  | [] => 0
  | d :: r => uptoBulk d + uptoBulkAll r
def uptoBulkEntries {H : Type} : List (Lit × DataW H) → Nat
  | [] => 0
  | x :: r => uptoBulkEntry x + uptoBulkEntries r
def uptoBulkEntry {H : Type} : Lit × DataW H → Nat
  | (.string bytes, d) => bytes.length + uptoBulk d + 1
  | (_, d) => uptoBulk d + 1
 end
def uptoSmall : (H : Type) → List (DataW H) → Bool := fun _ ds => decide (uptoBulkAll ds ≤ 1048576)
def OpenSpec.upto (s : _root_.Go.ChangeSpec) : _root_.Go.OpenSpec := { _root_.Go.OpenSpec.ofChange s with cond := some uptoSmall }

/-- 'foretellkeep.WordNow', WHERE WHAT IT READS IS OF BULK AT MOST 1048576: true; the input reads as it did. -/
def wordNowUptoRow : OpenClaim := { program := "ythkiegaifkkegaadoor", sum := "38faa209767fc5760b9595516dd3bc508c947bbcb68f3314cb01c435b8731254", func := "foretell/foretellkeep.WordNow", spec := "wordNow", unfollowed := true, recurses := true, named := ["foretell/polish.parts"], apart := false, laid := [("foretell/polish.parts", laid_foretell_polish_parts)], narrowed := true }
def WordNowUptoSaid : Prop := wordNowUptoRow.holds Tryd.pinned (OpenSpec.upto wordNowSpec)

/-- 'foretellkeep.WordShift', WHERE WHAT IT READS IS OF BULK AT MOST 1048576: true; the input reads as it did. -/
def wordShiftUptoRow : OpenClaim := { program := "ythkiegaifkkegaadoor", sum := "38faa209767fc5760b9595516dd3bc508c947bbcb68f3314cb01c435b8731254", func := "foretell/foretellkeep.WordShift", spec := "wordShift", unfollowed := true, recurses := true, named := ["foretell/polish.parts"], apart := false, laid := [("foretell/polish.parts", laid_foretell_polish_parts)], narrowed := true }
def WordShiftUptoSaid : Prop := wordShiftUptoRow.holds Tryd.pinned (OpenSpec.upto wordShiftSpec)

/-- 'foretellkeep.WordLonger', WHERE WHAT IT READS IS OF BULK AT MOST 1048576: true; the input reads as it did. -/
def wordLongerUptoRow : OpenClaim := { program := "ythkiegaifkkegaadoor", sum := "38faa209767fc5760b9595516dd3bc508c947bbcb68f3314cb01c435b8731254", func := "foretell/foretellkeep.WordLonger", spec := "wordLonger", unfollowed := true, recurses := true, named := ["foretell/polish.parts"], apart := false, laid := [("foretell/polish.parts", laid_foretell_polish_parts)], narrowed := true }
def WordLongerUptoSaid : Prop := wordLongerUptoRow.holds Tryd.pinned (OpenSpec.upto wordLongerSpec)

end Rows
end Go.Proofs.YthkiegaifkkegaaDoor
