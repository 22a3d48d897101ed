/-
  NARROWER THAN 'FOR EVERY INPUT', by the rows' own cells (each row's printed sentence says how): TopReach: laid · TopRing: laid · TopChoice: laid.
  DERIVED. THE GIVEN ROWS OF THIS SEAT. 3 by the template 'for every input the law returns true; each argument reads behind the call as it read before'; 0 by the template 'total and deterministic' (their statements: YtbmimdnpchldlaaDoorTotals.lean).
  GIVEN WITH THE SEED: the statements are not yours to turn. If you find one false, say at which input.
  Laid BY PROGRAM, IN A SANDBOX (cutbox-rows.mjs): the forced cells as the released guide's own fill.sh prints them over the translation 0157263eb47a72ce… (all of the seat's roots in one cut). By AI agents, Wed Nov 11 2026. No macro, syntax, notation, axiom, sorry.
-/
import Derived.Test.YtbmimdnpchldlaaDoorChecked
import GoSem.Claim
import GoSem.ClaimJoined
import GoSem.ClaimMapViews
import Derived.JoinedTies
import Derived.KernelRfl
namespace Go.Proofs.YtbmimdnpchldlaaDoor
/- THE CELL 'sum', in the pinned program and in every row, IS THE sha256 OF THE DUMP (.gsa) THAT YtbmimdnpchldlaaDoorProg.lean LOADS. Nothing in Lean hashes anything: it is a label: what it is worth is what the hold of that sum in a sandbox is worth. -/
noncomputable def Tryd.pinned : Pinned := { name := "ytbmimdnpchldlaadoor", sum := "0157263eb47a72ce7594298fb0a238957c912fe46d7bb35d75c11bfc6d6146e6", checked := Tryd.checked }
namespace Rows
def none {H : Type} : Left H := { results := [], args := [] }

/- WHAT THE LISTED PACKAGE-LEVEL VARIABLES READ AS WHEN THE CALL BEGINS. Each datum BY PROGRAM (the guide's laid-datum.mjs) off the statement by which the dump's own 'gosem.cut.vars' lays the variable. In a bare row this is a premise. The card (YtbmimdnpchldlaaDoorCards.lean) ties it to the program's text. -/
def laid_foretell_polish_parts {H : Type} : DataW H := .agg [.lit (.int .i64 (-1)), .lit (.int .i64 0), .lit (.int .i64 0), .lit (.int .i64 2), .lit (.int .i64 2), .lit (.int .i64 2), .lit (.int .i64 2), .lit (.int .i64 2), .lit (.int .i64 2), .lit (.int .i64 2), .lit (.int .i64 1), .lit (.int .i64 0), .lit (.int .i64 0), .lit (.int .i64 0), .lit (.int .i64 1), .lit (.int .i64 2), .lit (.int .i64 2), .lit (.int .i64 1), .lit (.int .i64 1)]

/-- 'foretelltop.TopReach': WHATEVER THE INPUT: true; the input reads as it did. -/
def topReachSpec : ChangeSpec := { name := "topReach", fn := fun _ => fun
  | [d1, d2] => { results := [.lit (.bool true)], args := [d1, d2] }
  | _ => none }
def topReachRow : OpenClaim := { program := "ytbmimdnpchldlaadoor", sum := "0157263eb47a72ce7594298fb0a238957c912fe46d7bb35d75c11bfc6d6146e6", func := "foretell/foretelltop.TopReach", spec := "topReach", unfollowed := true, recurses := true, named := ["foretell/polish.parts"], plainKeys := false, apart := false, laid := [("foretell/polish.parts", laid_foretell_polish_parts)] }
def TopReachSaid : Prop := topReachRow.holds Tryd.pinned (OpenSpec.ofChange topReachSpec)

/-- ITS FALSE NEIGHBOUR: 'it returns false'. Refute it at one input. -/
def topReachWrong : ChangeSpec := { name := "topReach", fn := fun _ => fun
  | [d1, d2] => { results := [.lit (.bool false)], args := [d1, d2] }
  | _ => none }
def TopReachWrongFalsely : Prop := topReachRow.holds Tryd.pinned (OpenSpec.ofChange topReachWrong)

/-- 'foretelltop.TopRing': WHATEVER THE INPUT: true; the input reads as it did. -/
def topRingSpec : ChangeSpec := { name := "topRing", fn := fun _ => fun
  | [d1, d2] => { results := [.lit (.bool true)], args := [d1, d2] }
  | _ => none }
def topRingRow : OpenClaim := { program := "ytbmimdnpchldlaadoor", sum := "0157263eb47a72ce7594298fb0a238957c912fe46d7bb35d75c11bfc6d6146e6", func := "foretell/foretelltop.TopRing", spec := "topRing", unfollowed := true, recurses := true, named := ["foretell/polish.parts"], plainKeys := false, apart := false, laid := [("foretell/polish.parts", laid_foretell_polish_parts)] }
def TopRingSaid : Prop := topRingRow.holds Tryd.pinned (OpenSpec.ofChange topRingSpec)

/-- ITS FALSE NEIGHBOUR: 'it returns false'. Refute it at one input. -/
def topRingWrong : ChangeSpec := { name := "topRing", fn := fun _ => fun
  | [d1, d2] => { results := [.lit (.bool false)], args := [d1, d2] }
  | _ => none }
def TopRingWrongFalsely : Prop := topRingRow.holds Tryd.pinned (OpenSpec.ofChange topRingWrong)

/-- 'foretelltop.TopChoice': WHATEVER THE INPUT: true; the input reads as it did. -/
def topChoiceSpec : ChangeSpec := { name := "topChoice", fn := fun _ => fun
  | [d1, d2] => { results := [.lit (.bool true)], args := [d1, d2] }
  | _ => none }
def topChoiceRow : OpenClaim := { program := "ytbmimdnpchldlaadoor", sum := "0157263eb47a72ce7594298fb0a238957c912fe46d7bb35d75c11bfc6d6146e6", func := "foretell/foretelltop.TopChoice", spec := "topChoice", unfollowed := true, recurses := true, named := ["foretell/polish.parts"], plainKeys := false, apart := false, laid := [("foretell/polish.parts", laid_foretell_polish_parts)] }
def TopChoiceSaid : Prop := topChoiceRow.holds Tryd.pinned (OpenSpec.ofChange topChoiceSpec)

/-- ITS FALSE NEIGHBOUR: 'it returns false'. Refute it at one input. -/
def topChoiceWrong : ChangeSpec := { name := "topChoice", fn := fun _ => fun
  | [d1, d2] => { results := [.lit (.bool false)], args := [d1, d2] }
  | _ => none }
def TopChoiceWrongFalsely : Prop := topChoiceRow.holds Tryd.pinned (OpenSpec.ofChange topChoiceWrong)

/- THE SECOND FORM. 'bulk': how many values and letters a reading holds, each counted each time it is reached (what is shared counts as often as it is met; a slice's spare places count too). A statement '..UptoSaid' is the law's where the arguments, and the package variables that the reading takes, are together of bulk at most 1048576: NARROWER than '..Said'. Prove '..Said' where nothing that the law and all that it calls make is longer than what came in: it says more and counts as full. Else prove '..UptoSaid'. A law counts once. -/
mutual
def uptoBulk {H : Type} : DataW H → Nat
  | .lit (.string bytes) => bytes.length + 1
  | .lit _ => 1
  | .nil => 1
  | .ptr d => uptoBulk d + 1
  | .slice elems spare => uptoBulkAll elems + uptoBulkAll spare + 1
  | .agg parts => uptoBulkAll parts + 1
  | .iface _ d => uptoBulk d + 1
  | .map entries => uptoBulkEntries entries + 1
  | .held _ => 1
def uptoBulkAll {H : Type} : List (DataW H) → Nat
  | [] => 0
  | d :: r => uptoBulk d + uptoBulkAll r
def uptoBulkEntries {H : Type} : List (Lit × DataW H) → Nat
  | [] => 0
  | x :: r => uptoBulkEntry x + uptoBulkEntries r
def uptoBulkEntry {H : Type} : Lit × DataW H → Nat
  | (.string bytes, d) => bytes.length + uptoBulk d + 1
  | (_, d) => uptoBulk d + 1
 end
def uptoSmall : (H : Type) → List (DataW H) → Bool := fun _ ds => decide (uptoBulkAll ds ≤ 1048576)
def OpenSpec.upto (s : _root_.Go.ChangeSpec) : _root_.Go.OpenSpec := { _root_.Go.OpenSpec.ofChange s with cond := some uptoSmall }

/-- 'foretelltop.TopReach', WHERE WHAT IT READS IS OF BULK AT MOST 1048576: true; the input reads as it did. -/
def topReachUptoRow : OpenClaim := { program := "ytbmimdnpchldlaadoor", sum := "0157263eb47a72ce7594298fb0a238957c912fe46d7bb35d75c11bfc6d6146e6", func := "foretell/foretelltop.TopReach", spec := "topReach", unfollowed := true, recurses := true, named := ["foretell/polish.parts"], plainKeys := false, apart := false, laid := [("foretell/polish.parts", laid_foretell_polish_parts)], narrowed := true }
def TopReachUptoSaid : Prop := topReachUptoRow.holds Tryd.pinned (OpenSpec.upto topReachSpec)

/-- 'foretelltop.TopRing', WHERE WHAT IT READS IS OF BULK AT MOST 1048576: true; the input reads as it did. -/
def topRingUptoRow : OpenClaim := { program := "ytbmimdnpchldlaadoor", sum := "0157263eb47a72ce7594298fb0a238957c912fe46d7bb35d75c11bfc6d6146e6", func := "foretell/foretelltop.TopRing", spec := "topRing", unfollowed := true, recurses := true, named := ["foretell/polish.parts"], plainKeys := false, apart := false, laid := [("foretell/polish.parts", laid_foretell_polish_parts)], narrowed := true }
def TopRingUptoSaid : Prop := topRingUptoRow.holds Tryd.pinned (OpenSpec.upto topRingSpec)

/-- 'foretelltop.TopChoice', WHERE WHAT IT READS IS OF BULK AT MOST 1048576: true; the input reads as it did. -/
def topChoiceUptoRow : OpenClaim := { program := "ytbmimdnpchldlaadoor", sum := "0157263eb47a72ce7594298fb0a238957c912fe46d7bb35d75c11bfc6d6146e6", func := "foretell/foretelltop.TopChoice", spec := "topChoice", unfollowed := true, recurses := true, named := ["foretell/polish.parts"], plainKeys := false, apart := false, laid := [("foretell/polish.parts", laid_foretell_polish_parts)], narrowed := true }
def TopChoiceUptoSaid : Prop := topChoiceUptoRow.holds Tryd.pinned (OpenSpec.upto topChoiceSpec)

end Rows
end Go.Proofs.YtbmimdnpchldlaaDoor
