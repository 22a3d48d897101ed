/- Contracts: foretellkeep.sameOps on like lists, polish.Parts of a kind that there is. -/
import Derived.Test.YtjjamfbjapbkgaaDoorJoinT
namespace Go.Proofs.YtjjamfbjapbkgaaDoor
open Go.RowKit

theorem Row.drop {w : World} {sz : Nat} {b off n cap : Nat} {xs : List Value} (h : Row w sz (some ⟨b, off, none⟩) n cap xs) (k : Nat) (hk : k ≤ n) : Row w sz (some ⟨b, off + k * sz, none⟩) (n - k) (cap - k) (xs.drop (k * sz)) := by
  refine ⟨?_, by have := h.le; omega, by have := h.max; omega, b, off + k * sz, (by intro h; cases h), fun _ => rfl, fun j u hu => ?_⟩
  · rw [List.length_drop, h.len, Nat.sub_mul]
  · rw [List.getElem?_drop] at hu
    have := h.cells _ _ hu
    rwa [← Nat.add_assoc] at this

set_option maxRecDepth 100000 in
set_option maxHeartbeats 2000000 in
theorem same_ops (v1 v2 : Value) (l : List Op2) (w : World) (h1 : Ops w v1 l) (h2 : Ops w v2 l) :
    Calls Tryd.prog 19 #[v1, v2] w fun e w' => e = .returned (.bool true) ∧ Ext w w' := by
  obtain ⟨a1, c1, rfl, hr1⟩ := h1
  obtain ⟨a2, c2, rfl, hr2⟩ := h2
  have hmax := hr1.le
  have hmax2 := hr1.max
  obtain ⟨b1, o1, ha1, hc1⟩ := hr1.ops
  obtain ⟨b2, o2, ha2, hc2⟩ := hr2.ops
  have HA1 := Lib.hid ha1
  have HA2 := Lib.hid ha2
  have HC1 := Lib.hid hc1
  have HC2 := Lib.hid hc2
  clear ha1 ha2 hc1 hc2 hr1 hr2
  go_enter Tryd.func19, Tryd.ntmps19
  go_wp2
  go_loopw [5] (fun i wr => ∃ ii : Nat, ii ≤ l.length ∧ i = .int .i64 ii ∧ ∃ m, wr = w.drewN m) (fun i _ => l.length - (intOf i).toNat)
  case atStart => exact ⟨0, by omega, rfl, 0, rfl⟩
  case round =>
    obtain ⟨ii, hii, rfl, m, rfl⟩ := hrel
    by_cases hlt : ii < l.length
    · obtain rfl := HA1.out (by omega)
      obtain rfl := HA2.out (by omega)
      have hx := HC1.out ii hlt
      have hy := HC2.out ii hlt
      obtain ⟨hx1, hx2⟩ := hx
      obtain ⟨hy1, hy2⟩ := hy
      generalize l[ii] = o at *
      have hi0 : (0 : Int) ≤ ii := by omega
      have hin : (ii : Int) < l.length := by omega
      go_wp2
      go_quiet (fail)
      go_wp2
      have hml : l.length ≤ 9223372036854775807 := by unfold maxLen at hmax2; omega
      have hw : wrap64 ((ii : Int) + 1) = ((ii + 1 : Nat) : Int) := by
        rw [show ((ii + 1 : Nat) : Int) = (ii : Int) + 1 by omega]
        exact IntWalk.wrap64_in _ (by omega)
      rw [hw]
      exact ⟨⟨ii + 1, by omega, rfl, _, rfl⟩, by simp [intOf]; omega⟩
    · obtain rfl : ii = l.length := by omega
      go_wp2
      go_ret
      exact ⟨rfl, below_drewN (Ext.refl _) _⟩

end Go.Proofs.YtjjamfbjapbkgaaDoor
