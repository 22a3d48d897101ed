/- Shut: what is needed of it. No condition. -/
import Derived.Test.YtopkbjfjncpjdaaDoorMem
namespace Go.Proofs.YtopkbjfjncpjdaaDoor
open Go.RowKit
structure Shut (p : Prop) : Prop where
  out : p
theorem hq_step {P : Program} {ops : Array Oper} {C : World → Prop} {Q : Act → Prop} {a : Act} {o : Oper} {rest : List Oper}
    (h : ∀ K : Act → Prop, (∀ a, Shut (wpQuiet P ops C Q rest a) → K a) → if Region.wanted o (yielded ops a.tmps) then o.quiet P a C K else K (a.put o.dst undef)) : Shut (wpQuiet P ops C Q (o :: rest) a) :=
  ⟨wpQuiet_step fun K hK => h K fun a ha => hK a ha.out⟩
theorem hq_nil {P : Program} {ops : Array Oper} {C : World → Prop} {Q : Act → Prop} {a : Act} (h : Q a) : Shut (wpQuiet P ops C Q [] a) := ⟨wpQuiet_nil h⟩
end Go.Proofs.YtopkbjfjncpjdaaDoor
