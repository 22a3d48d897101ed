/- The table of parts, out of what the row lists of it. -/
import Derived.Test.YtopkbjfjncpjdaaDoorPolA
import Derived.LaidMore
import Derived.OpenShut
import Derived.Stop.Joined
namespace Go.Proofs.YtopkbjfjncpjdaaDoor
open Go.ChangeShapes Go.WideShapes Go.ChangeAt Go.WideMaps Go.WideElems Go.RowKit
theorem gParts : Tryd.prog.globalNamed "foretell/polish.parts" = some 0 := by kernel_rfl
theorem tParts : (Tryd.prog.globals[0]?).map (·.type) = some 125 := by kernel_rfl
theorem door_met (os : Os) (args : Array Value) : laidMetH Tryd.prog [("foretell/polish.parts", Rows.laid_foretell_polish_parts)] ((World.doorLaid Tryd.prog 400 os).forCall (fun _ _ => 0) ⟨#[], args, []⟩).memory :=
  laidMetH_of_parts3 (fuel := 8) (laidMet_of_run' 8 (by kernel_rfl) (by kernel_rfl)) (by kernel_rfl) (by kernel_rfl)
theorem tab_of_laid {W : World} (h : laidMetH Tryd.prog [("foretell/polish.parts", Rows.laid_foretell_polish_parts)] W) : Tab W := by
  rw [MakeChecks.laidMetH_plain _ _ _ (by kernel_rfl)] at h
  obtain ⟨ps, ⟨g0, t0, cs0, f0, p0, q0, hg0, ht0, hv0, hd0, _, _⟩, _, _⟩ := h
  obtain rfl := Option.some.inj (gParts.symm.trans hg0)
  obtain rfl := Option.some.inj (tParts.symm.trans ht0)
  obtain ⟨xs, m, rfl, hx1, hlen, hn3, hel⟩ := DataW.trod_array Tryd.underlying125 hd0
  have c3 : Tryd.prog.cellsOf 3 = 1 := by kernel_rfl
  have c24 : Tryd.prog.cellsOf 125 = 19 := by kernel_rfl
  rw [c24] at hlen
  simp only [Prod.mk.injEq] at hx1
  have key : ∀ (k : Nat) (n : Int), k < 19 → xs[k]?.map (·.1) = some (.lit (.int .i64 n)) → W.cell? ⟨0, k, none⟩ = some (.int .i64 n) := by
    intro k n hk hxn
    have h0 := hel k hk
    obtain ⟨x0, hx0, hx0'⟩ := Option.map_eq_some_iff.1 hxn
    rw [hx0] at h0
    obtain ⟨n', e1, e2, _⟩ := DataW.trod_int Tryd.underlying3 h0
    rw [e2] at hx0'
    simp only [DataW.lit.injEq, Lit.int.injEq, true_and] at hx0'
    subst hx0'
    have hc := World.var?_cell hg0 hv0 k
    rw [c3, Nat.mul_one] at e1
    have e3 : cs0[k]? = some (.int .i64 n') := by
      have := congrArg (fun l => l[0]?) e1
      simp only [List.getElem?_take, List.getElem?_drop] at this
      simpa using this
    rw [e3] at hc
    simpa using hc
  intro k h1 h2
  have h9 := hx1.1
  unfold Rows.laid_foretell_polish_parts at h9
  simp only [DataW.agg.injEq] at h9
  refine key k _ (by omega) ?_
  rw [show xs[k]?.map (·.1) = (xs.map (·.1))[k]? by simp, ← h9]
  have : k = 1 ∨ k = 2 ∨ k = 3 ∨ k = 4 ∨ k = 5 ∨ k = 6 ∨ k = 7 ∨ k = 8 ∨ k = 9 ∨ k = 10 ∨ k = 11 ∨ k = 12 ∨ k = 13 ∨ k = 14 ∨ k = 15 ∨ k = 16 ∨ k = 17 ∨ k = 18 := by omega
  rcases this with rfl | rfl | rfl | rfl | rfl | rfl | rfl | rfl | rfl | rfl | rfl | rfl | rfl | rfl | rfl | rfl | rfl | rfl <;> rfl
end Go.Proofs.YtopkbjfjncpjdaaDoor
