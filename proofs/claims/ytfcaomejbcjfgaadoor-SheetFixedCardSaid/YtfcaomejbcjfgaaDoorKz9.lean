/- Several texts in one: Do; Eval; EvalA; EvalB. No condition. -/
import Derived.Test.YtfcaomejbcjfgaaDoorKz7
import Derived.Test.YtfcaomejbcjfgaaDoorKz3
namespace Go.Proofs.YtfcaomejbcjfgaaDoor
open Go.RowKit
def Small (n : Int) : Prop := -1000000 ≤ n ∧ n ≤ 1000000
instance (n : Int) : Decidable (Small n) := by unfold Small; infer_instance
end Go.Proofs.YtfcaomejbcjfgaaDoor

namespace Go.Proofs.YtfcaomejbcjfgaaDoor
end Go.Proofs.YtfcaomejbcjfgaaDoor

namespace Go.Proofs.YtfcaomejbcjfgaaDoor
open Go.RowKit
end Go.Proofs.YtfcaomejbcjfgaaDoor

namespace Go.Proofs.YtfcaomejbcjfgaaDoor
open Go.RowKit
end Go.Proofs.YtfcaomejbcjfgaaDoor
