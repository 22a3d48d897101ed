/- The cells of a row of one-cell values. No condition. -/
import Derived.Test.YtbndjailimhbdaaTag
namespace Go.Proofs.Ytbndjailimhbdaa
open Go.RowKit

theorem row_cells {α : Type} {f : α → Value} {w : World} {a : Option Addr} {n c : Nat} {l : List α} (h : Row w 1 a n c (l.map f)) : ∃ b off, (0 < l.length → a = some ⟨b, off, none⟩) ∧ ∀ (i : Nat) (hi : i < l.length), w.cell? ⟨b, off + i, none⟩ = some (f l[i]) := by
  obtain ⟨b, off, _, h2, h3⟩ := h.lie
  exact ⟨b, off, fun hl => h2 (by simpa using hl), fun i hi => h3 i _ (by rw [List.getElem?_map, List.getElem?_eq_getElem hi]; rfl)⟩

end Go.Proofs.Ytbndjailimhbdaa
