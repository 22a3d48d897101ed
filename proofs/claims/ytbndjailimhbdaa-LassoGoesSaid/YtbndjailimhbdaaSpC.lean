/- Spots as cells. No condition. -/
import Derived.Test.YtbndjailimhbdaaMem
namespace Go.Proofs.Ytbndjailimhbdaa
open Go.RowKit

abbrev Sp2 := Int × Int
def spc (s : Int × Int) : List Value := [.int .i64 s.1, .int .i64 s.2]
theorem Try.slSpots : SlTy Try.prog 26 41 (.agg #[.int .i64 0, .int .i64 0]) 2 16 := SlTy.mk' Try.underlying26 (by kernel_rfl) (by rfl) (by omega)

end Go.Proofs.Ytbndjailimhbdaa
