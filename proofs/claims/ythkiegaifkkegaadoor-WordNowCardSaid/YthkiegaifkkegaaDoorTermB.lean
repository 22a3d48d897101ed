/- TermB: what is needed of it. No condition. -/
import Derived.Test.YthkiegaifkkegaaDoorTerm
namespace Go.Proofs.YthkiegaifkkegaaDoor
theorem ends_zero (t : Tm) (p : Nat) (h : 0 < (t.ends p).length) : (t.ends p)[0] = ((p + t.size : Nat) : Int) := by
  cases t <;> simp [Tm.ends, Tm.size] <;> omega
end Go.Proofs.YthkiegaifkkegaaDoor
