/- JoinT: what is needed of it. No condition. -/
import Derived.Test.YtopkbjfjncpjdaaDoorJoinG
import Derived.Test.YtopkbjfjncpjdaaDoorCheck
import Derived.Test.YtopkbjfjncpjdaaDoorTypB
namespace Go.Proofs.YtopkbjfjncpjdaaDoor
open Go.RowKit
theorem check_t (v : Value) (t : Tm) (vars : Int) (w : World) (h : IsT w v t) (ht : Tab w) (h1 : 0 ≤ vars) (h2 : vars ≤ 6) (hok : t.ok) (hs : t.size ≤ 60) (hg : t.good vars) :
    Calls Tryd.prog 30 #[v, .int .i64 vars] w fun e w' => e = .returned (.tuple #[.bool (t.typed && mkK t.kind), .int .i64 (if t.typed then 0 else 5)]) ∧ Ext w w' := by
  have hc := check_tree t vars h1 h2 hok hs hg
  have he := ends_term t hok hs
  have hcl : checkL t.flat vars = checkE t.flat (t.ends 0) vars := by
    unfold checkL
    rw [if_neg (by omega), he]
  rw [hcl] at hc
  refine (check_ok v t.flat vars w (t.ends 0) h ht h1 h2 he).mono ?_
  rintro e w' ⟨hE, hm⟩
  rw [hc] at hm
  cases ht : t.typed
  · rw [ht] at hm; exact ⟨hm, hE⟩
  · rw [ht] at hm; simpa using ⟨hm, hE⟩
end Go.Proofs.YtopkbjfjncpjdaaDoor
