/- The law TapeAgain over cells. -/
import Derived.Test.YtngcbfefhlheoaaTapeAgain
namespace Go.Proofs.Ytngcbfefhlheoaa
open Go.RowKit

theorem tapeAgain_law (v0 v1 v2 : Value) (W : World) (h0 : Cells Try.prog W 35 [v0]) (h1 : Cells Try.prog W 22 [v1]) (h2 : Cells Try.prog W 3 [v2]) :
    Calls Try.prog 8 #[v0, v1, v2] W fun e w' => e = .returned (.bool true) ∧ Ext W w' := by
  obtain ⟨v, ll, hv, hL, hI⟩ := h0.lists Try.underlying35 Try.underlying27 Try.underlying3 (by kernel_rfl) (by kernel_rfl)
  obtain ⟨vj, lj, hvj, hJ⟩ := h1.bytes Try.underlying22 Try.underlying5 (by kernel_rfl)
  obtain ⟨p, hp, p1, p2⟩ := h2.i64 Try.underlying3
  cases hv; cases hvj; cases hp
  exact tapeAgain_walk _ _ ll lj p W hL hI hJ p1 p2

end Go.Proofs.Ytngcbfefhlheoaa
