/- TruA: what is needed of it. No condition. -/
import Derived.Test.YthkiegaifkkegaaDoorLogA
import Derived.Test.YthkiegaifkkegaaDoorTruP
import Derived.Test.YthkiegaifkkegaaDoorBits
import Derived.Deep.RegionLaw
import Derived.BigQuiet
import Derived.Deep.RegionHeld3
namespace Go.Proofs.YthkiegaifkkegaaDoor
open Go.RowKit
theorem Tryd.slBools : SlTy Tryd.prog 32 4 (.bool false) 1 1 := SlTy.mk' Tryd.underlying32 (by kernel_rfl) (by rfl) (by omega)
theorem row_ints {α : Type} {f : α → Value} {w : World} {a : Option Addr} {n c : Nat} {l : List α} (h : Row w 1 a n c (l.map f)) : ∃ b off, (0 < l.length → a = some ⟨b, off, none⟩) ∧ ∀ (i : Nat) (x : α), l[i]? = some x → w.cell? ⟨b, off + i, none⟩ = some (f x) := by
  obtain ⟨b, off, _, h2, h3⟩ := h.lie
  exact ⟨b, off, fun hl => h2 (by simpa using hl), fun i x hi => h3 i _ (by rw [List.getElem?_map, hi]; rfl)⟩
theorem getD_some {l : List Bool} {i : Nat} (h : i < l.length) : l[i]? = some (l.getD i false) := by simp [List.getD, List.getElem?_eq_getElem h]
end Go.Proofs.YthkiegaifkkegaaDoor
