/- JoinG: what is needed of it. No condition. -/
import Derived.Test.YtopkbjfjncpjdaaDoorJoin
namespace Go.Proofs.YtopkbjfjncpjdaaDoor
open Go.RowKit
theorem ops_own {w : World} {base : Nat} {v : Value} {l : List Op2} (h : w.ownsRow base 36 2 v l.length (l.flatMap opc)) : Ops w v l := by
  obtain ⟨a, c, rfl, hr⟩ := h.row
  exact ⟨a, c, rfl, hr⟩
theorem ops_ext {w w' : World} {v : Value} {l : List Op2} (h : Ops w v l) (hb : Ext w w') : Ops w' v l := by
  obtain ⟨a, c, rfl, hr⟩ := h
  exact ⟨a, c, rfl, hr.ext hb⟩
def IsT (w : World) (v : Value) (t : Tm) : Prop := Ops w v t.flat
theorem IsT.ext {w w' : World} {v : Value} {t : Tm} (h : IsT w v t) (hb : Ext w w') : IsT w' v t := ops_ext h hb
theorem isT_own {w : World} {base : Nat} {v : Value} {t : Tm} (h : w.ownsRow base 36 2 v t.flat.length (t.flat.flatMap opc)) : IsT w v t := ops_own h
theorem IsT.val {w : World} {v : Value} {t : Tm} (h : IsT w v t) : ∃ a n c, v = .slice a n c := by
  obtain ⟨a, c, rfl, _⟩ := h
  exact ⟨_, _, _, rfl⟩
end Go.Proofs.YtopkbjfjncpjdaaDoor
