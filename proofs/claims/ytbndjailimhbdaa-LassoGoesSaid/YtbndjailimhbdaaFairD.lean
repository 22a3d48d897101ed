/- Plain: a fair part that is reached. No condition. -/
import Derived.Test.YtbndjailimhbdaaFairQ
namespace Go.Proofs.Ytbndjailimhbdaa

/-- A fair part that is reached. -/
def FairR (next : List (List Int)) (bits : Nat → Nat) (M n init m : Nat) : Prop := m < n ∧ FairAt next bits M n m ∧ ∃ s, s < init ∧ Reach next s m

end Go.Proofs.Ytbndjailimhbdaa
