/- The law TapeKeeps over cells. -/
import Derived.Test.YtngcbfefhlheoaaTapeKeeps
namespace Go.Proofs.Ytngcbfefhlheoaa
open Go.RowKit

theorem tapeKeeps_law (v0 v1 v2 v3 : Value) (W : World) (h0 : Cells Try.prog W 35 [v0]) (h1 : Cells Try.prog W 35 [v1]) (h2 : Cells Try.prog W 3 [v2]) (h3 : Cells Try.prog W 27 [v3]) :
    Calls Try.prog 7 #[v0, v1, v2, v3] W fun e w' => e = .returned (.bool true) ∧ Ext W w' := by
  obtain ⟨v, ll, hv, hL, hI⟩ := h0.lists Try.underlying35 Try.underlying27 Try.underlying3 (by kernel_rfl) (by kernel_rfl)
  obtain ⟨vm, mm, hvm, hLm, hIm⟩ := h1.lists Try.underlying35 Try.underlying27 Try.underlying3 (by kernel_rfl) (by kernel_rfl)
  obtain ⟨p, hp, p1, p2⟩ := h2.i64 Try.underlying3
  obtain ⟨vl, last, hvl, hLl, hIl⟩ := h3.ints Try.underlying27 Try.underlying3 (by kernel_rfl)
  cases hv; cases hvm; cases hp; cases hvl
  exact tapeKeeps_walk _ _ _ ll mm last p W hL hI hLm hIm hLl hIl p1 p2

end Go.Proofs.Ytngcbfefhlheoaa
