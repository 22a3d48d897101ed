/-
  No cell of these rows narrows 'for every input' (looked for: loops, veiled, ifaces, maps, wideKeys, modest, calm, conditions, laid).
  DERIVED. THE GIVEN ROWS OF THIS SEAT. 5 by the template 'for every input the law returns true; each argument reads behind the call as it read before'; 0 by the template 'total and deterministic' (their statements: YtmacgcaehfjoiaaTotals.lean).
  GIVEN WITH THE SEED: the statements are not yours to turn. If you find one false, say at which input.
  Laid BY PROGRAM, IN A SANDBOX (cutbox-rows.mjs): the forced cells as the released guide's own fill.sh prints them over the translation a579187cdb521ea4… (all of the seat's roots in one cut). By AI agents, Wed Nov 11 2026. No macro, syntax, notation, axiom, sorry.
-/
import Derived.Test.YtmacgcaehfjoiaaChecked
import GoSem.Claim
import GoSem.ClaimJoined
import GoSem.ClaimMapViews
import Derived.JoinedTies
import Derived.KernelRfl
namespace Go.Proofs.Ytmacgcaehfjoiaa
/- THE CELL 'sum', in the pinned program and in every row, IS THE sha256 OF THE DUMP (.gsa) THAT YtmacgcaehfjoiaaProg.lean LOADS. Nothing in Lean hashes anything: it is a label: what it is worth is what the hold of that sum in a sandbox is worth. -/
noncomputable def Try.pinned : Pinned := { name := "ytmacgcaehfjoiaa", sum := "a579187cdb521ea4d14e539a32d002196e9b8cf601a33df6931542ff45d7a587", checked := Try.checked }
namespace Rows
def none {H : Type} : Left H := { results := [], args := [] }

/-- 'foretellkeep.StoreRuns': WHATEVER THE INPUT: true; the input reads as it did. -/
def storeRunsSpec : ChangeSpec := { name := "storeRuns", fn := fun _ => fun
  | [d] => { results := [.lit (.bool true)], args := [d] }
  | _ => none }
def storeRunsRow : OpenClaim := { program := "ytmacgcaehfjoiaa", sum := "a579187cdb521ea4d14e539a32d002196e9b8cf601a33df6931542ff45d7a587", func := "foretell/foretellkeep.StoreRuns", spec := "storeRuns", unfollowed := true, recurses := true, apart := false }
def StoreRunsSaid : Prop := storeRunsRow.holds Try.pinned (OpenSpec.ofChange storeRunsSpec)

/-- ITS FALSE NEIGHBOUR: 'it returns false'. Refute it at one input. -/
def storeRunsWrong : ChangeSpec := { name := "storeRuns", fn := fun _ => fun
  | [d] => { results := [.lit (.bool false)], args := [d] }
  | _ => none }
def StoreRunsWrongFalsely : Prop := storeRunsRow.holds Try.pinned (OpenSpec.ofChange storeRunsWrong)

/-- 'foretellkeep.StoreSteady': WHATEVER THE INPUT: true; the input reads as it did. -/
def storeSteadySpec : ChangeSpec := { name := "storeSteady", fn := fun _ => fun
  | [d1, d2] => { results := [.lit (.bool true)], args := [d1, d2] }
  | _ => none }
def storeSteadyRow : OpenClaim := { program := "ytmacgcaehfjoiaa", sum := "a579187cdb521ea4d14e539a32d002196e9b8cf601a33df6931542ff45d7a587", func := "foretell/foretellkeep.StoreSteady", spec := "storeSteady", unfollowed := true, recurses := true, apart := false }
def StoreSteadySaid : Prop := storeSteadyRow.holds Try.pinned (OpenSpec.ofChange storeSteadySpec)

/-- ITS FALSE NEIGHBOUR: 'it returns false'. Refute it at one input. -/
def storeSteadyWrong : ChangeSpec := { name := "storeSteady", fn := fun _ => fun
  | [d1, d2] => { results := [.lit (.bool false)], args := [d1, d2] }
  | _ => none }
def StoreSteadyWrongFalsely : Prop := storeSteadyRow.holds Try.pinned (OpenSpec.ofChange storeSteadyWrong)

/-- 'foretellkeep.StoreOnce': WHATEVER THE INPUT: true; the input reads as it did. -/
def storeOnceSpec : ChangeSpec := { name := "storeOnce", fn := fun _ => fun
  | [d1, d2] => { results := [.lit (.bool true)], args := [d1, d2] }
  | _ => none }
def storeOnceRow : OpenClaim := { program := "ytmacgcaehfjoiaa", sum := "a579187cdb521ea4d14e539a32d002196e9b8cf601a33df6931542ff45d7a587", func := "foretell/foretellkeep.StoreOnce", spec := "storeOnce", unfollowed := true, recurses := true, apart := false }
def StoreOnceSaid : Prop := storeOnceRow.holds Try.pinned (OpenSpec.ofChange storeOnceSpec)

/-- ITS FALSE NEIGHBOUR: 'it returns false'. Refute it at one input. -/
def storeOnceWrong : ChangeSpec := { name := "storeOnce", fn := fun _ => fun
  | [d1, d2] => { results := [.lit (.bool false)], args := [d1, d2] }
  | _ => none }
def StoreOnceWrongFalsely : Prop := storeOnceRow.holds Try.pinned (OpenSpec.ofChange storeOnceWrong)

/-- 'foretellkeep.StoreTurns': WHATEVER THE INPUT: true; the input reads as it did. -/
def storeTurnsSpec : ChangeSpec := { name := "storeTurns", fn := fun _ => fun
  | [d1, d2] => { results := [.lit (.bool true)], args := [d1, d2] }
  | _ => none }
def storeTurnsRow : OpenClaim := { program := "ytmacgcaehfjoiaa", sum := "a579187cdb521ea4d14e539a32d002196e9b8cf601a33df6931542ff45d7a587", func := "foretell/foretellkeep.StoreTurns", spec := "storeTurns", unfollowed := true, recurses := true, apart := false }
def StoreTurnsSaid : Prop := storeTurnsRow.holds Try.pinned (OpenSpec.ofChange storeTurnsSpec)

/-- ITS FALSE NEIGHBOUR: 'it returns false'. Refute it at one input. -/
def storeTurnsWrong : ChangeSpec := { name := "storeTurns", fn := fun _ => fun
  | [d1, d2] => { results := [.lit (.bool false)], args := [d1, d2] }
  | _ => none }
def StoreTurnsWrongFalsely : Prop := storeTurnsRow.holds Try.pinned (OpenSpec.ofChange storeTurnsWrong)

/-- 'foretellkeep.StoreGrows': WHATEVER THE INPUT: true; the input reads as it did. -/
def storeGrowsSpec : ChangeSpec := { name := "storeGrows", fn := fun _ => fun
  | [d1, d2] => { results := [.lit (.bool true)], args := [d1, d2] }
  | _ => none }
def storeGrowsRow : OpenClaim := { program := "ytmacgcaehfjoiaa", sum := "a579187cdb521ea4d14e539a32d002196e9b8cf601a33df6931542ff45d7a587", func := "foretell/foretellkeep.StoreGrows", spec := "storeGrows", unfollowed := true, recurses := true, apart := false }
def StoreGrowsSaid : Prop := storeGrowsRow.holds Try.pinned (OpenSpec.ofChange storeGrowsSpec)

/-- ITS FALSE NEIGHBOUR: 'it returns false'. Refute it at one input. -/
def storeGrowsWrong : ChangeSpec := { name := "storeGrows", fn := fun _ => fun
  | [d1, d2] => { results := [.lit (.bool false)], args := [d1, d2] }
  | _ => none }
def StoreGrowsWrongFalsely : Prop := storeGrowsRow.holds Try.pinned (OpenSpec.ofChange storeGrowsWrong)

/- THE SECOND FORM. 'bulk': how many values and letters a reading holds, each counted each time it is reached (what is shared counts as often as it is met; a slice's spare places count too). A statement '..UptoSaid' is the law's where the arguments, and the package variables that the reading takes, are together of bulk at most 1048576: NARROWER than '..Said'. Prove '..Said' where nothing that the law and all that it calls make is longer than what came in: it says more and counts as full. Else prove '..UptoSaid'. A law counts once. -/
mutual
def uptoBulk {H : Type} : DataW H → Nat
  | .lit (.string bytes) => bytes.length + 1
  | .lit _ => 1
  | .nil => 1
  | .ptr d => uptoBulk d + 1
  | .slice elems spare => uptoBulkAll elems + uptoBulkAll spare + 1
  | .agg parts => uptoBulkAll parts + 1
  | .iface _ d => uptoBulk d + 1
  | .map entries => uptoBulkEntries entries + 1
  | .held _ => 1
def uptoBulkAll {H : Type} : List (DataW H) → Nat
  | [] => 0
  | d :: r => uptoBulk d + uptoBulkAll r
def uptoBulkEntries {H : Type} : List (Lit × DataW H) → Nat
  | [] => 0
  | x :: r => uptoBulkEntry x + uptoBulkEntries r
def uptoBulkEntry {H : Type} : Lit × DataW H → Nat
  | (.string bytes, d) => bytes.length + uptoBulk d + 1
  | (_, d) => uptoBulk d + 1
 end
def uptoSmall : (H : Type) → List (DataW H) → Bool := fun _ ds => decide (uptoBulkAll ds ≤ 1048576)
def OpenSpec.upto (s : _root_.Go.ChangeSpec) : _root_.Go.OpenSpec := { _root_.Go.OpenSpec.ofChange s with cond := some uptoSmall }

/-- 'foretellkeep.StoreRuns', WHERE WHAT IT READS IS OF BULK AT MOST 1048576: true; the input reads as it did. -/
def storeRunsUptoRow : OpenClaim := { program := "ytmacgcaehfjoiaa", sum := "a579187cdb521ea4d14e539a32d002196e9b8cf601a33df6931542ff45d7a587", func := "foretell/foretellkeep.StoreRuns", spec := "storeRuns", unfollowed := true, recurses := true, apart := false, narrowed := true }
def StoreRunsUptoSaid : Prop := storeRunsUptoRow.holds Try.pinned (OpenSpec.upto storeRunsSpec)

/-- 'foretellkeep.StoreSteady', WHERE WHAT IT READS IS OF BULK AT MOST 1048576: true; the input reads as it did. -/
def storeSteadyUptoRow : OpenClaim := { program := "ytmacgcaehfjoiaa", sum := "a579187cdb521ea4d14e539a32d002196e9b8cf601a33df6931542ff45d7a587", func := "foretell/foretellkeep.StoreSteady", spec := "storeSteady", unfollowed := true, recurses := true, apart := false, narrowed := true }
def StoreSteadyUptoSaid : Prop := storeSteadyUptoRow.holds Try.pinned (OpenSpec.upto storeSteadySpec)

/-- 'foretellkeep.StoreOnce', WHERE WHAT IT READS IS OF BULK AT MOST 1048576: true; the input reads as it did. -/
def storeOnceUptoRow : OpenClaim := { program := "ytmacgcaehfjoiaa", sum := "a579187cdb521ea4d14e539a32d002196e9b8cf601a33df6931542ff45d7a587", func := "foretell/foretellkeep.StoreOnce", spec := "storeOnce", unfollowed := true, recurses := true, apart := false, narrowed := true }
def StoreOnceUptoSaid : Prop := storeOnceUptoRow.holds Try.pinned (OpenSpec.upto storeOnceSpec)

/-- 'foretellkeep.StoreTurns', WHERE WHAT IT READS IS OF BULK AT MOST 1048576: true; the input reads as it did. -/
def storeTurnsUptoRow : OpenClaim := { program := "ytmacgcaehfjoiaa", sum := "a579187cdb521ea4d14e539a32d002196e9b8cf601a33df6931542ff45d7a587", func := "foretell/foretellkeep.StoreTurns", spec := "storeTurns", unfollowed := true, recurses := true, apart := false, narrowed := true }
def StoreTurnsUptoSaid : Prop := storeTurnsUptoRow.holds Try.pinned (OpenSpec.upto storeTurnsSpec)

/-- 'foretellkeep.StoreGrows', WHERE WHAT IT READS IS OF BULK AT MOST 1048576: true; the input reads as it did. -/
def storeGrowsUptoRow : OpenClaim := { program := "ytmacgcaehfjoiaa", sum := "a579187cdb521ea4d14e539a32d002196e9b8cf601a33df6931542ff45d7a587", func := "foretell/foretellkeep.StoreGrows", spec := "storeGrows", unfollowed := true, recurses := true, apart := false, narrowed := true }
def StoreGrowsUptoSaid : Prop := storeGrowsUptoRow.holds Try.pinned (OpenSpec.upto storeGrowsSpec)

end Rows
end Go.Proofs.Ytmacgcaehfjoiaa
