/- Several texts in one: LogA; TruA. No condition. -/
import Derived.Test.YtfcaomejbcjfgaaGreatDoorKx9
import Derived.Test.YtfcaomejbcjfgaaGreatDoorKx2
import Derived.Test.YtfcaomejbcjfgaaGreatDoorKx1
import Derived.Deep.LoopGhost
import Derived.Deep.RegionLaw
import Derived.BigQuiet
import Derived.Deep.RegionHeld3
namespace Go.Proofs.YtfcaomejbcjfgaaGreatDoor
open Go.RowKit
theorem ah_fn (k : Int) (w : World) : Calls Tryz.prog 46 #[.int .i64 k] w fun e w' => e = .returned (.bool (aheadB k)) ∧ w = w' := by
  by_cases h1 : 14 ≤ k
  · by_cases h2 : k ≤ 18
    · have hb : aheadB k = true := by simp [aheadB, h1, h2]
      rw [hb]
      go_enter Tryz.func46, Tryz.ntmps46
      go_wp2
      go_ret
      exact ⟨rfl, rfl⟩
    · have hb : aheadB k = false := by simp [aheadB, h2]
      rw [hb]
      go_enter Tryz.func46, Tryz.ntmps46
      go_wp2
      go_ret
      exact ⟨rfl, rfl⟩
  · have hb : aheadB k = false := by simp [aheadB, h1]
    rw [hb]
    go_enter Tryz.func46, Tryz.ntmps46
    go_wp2
    go_ret
    exact ⟨rfl, rfl⟩
theorem cntA_take (l : List Op2) {i : Nat} (h : i < l.length) : cntA (l.take (i + 1)) = cntA (l.take i) + (if aheadB l[i].1 then 1 else 0) := by
  rw [List.take_succ_eq_append_getElem h, cntA_app]
  simp [cntA]
structure IsF (l : List Op2) (props : Int) (t : Tm) : Prop where
  ok : t.ok
  flat : t.flat = l
  small : t.size ≤ 60
  fit : ∀ o ∈ l, FitOp props o
  cnt : cntA l ≤ 6
  p0 : 0 ≤ props
  p6 : props ≤ 6
end Go.Proofs.YtfcaomejbcjfgaaGreatDoor

namespace Go.Proofs.YtfcaomejbcjfgaaGreatDoor
open Go.RowKit
end Go.Proofs.YtfcaomejbcjfgaaGreatDoor
