/- Contracts: the seven closures of (*machine).do. -/
import Derived.Test.YtkkbefhnklpfaaaDoorMach
namespace Go.Proofs.YtkkbefhnklpfaaaDoor
open Go.RowKit

set_option maxHeartbeats 1000000 in
theorem clo_add (p q : Addr) (a b : Int) (w : World) (hp : w.cell? p = some (.int .i64 a)) (hq : w.cell? q = some (.int .i64 b)) (ha : -1000000 ≤ a ∧ a ≤ 1000000) (hb : -1000000 ≤ b ∧ b ≤ 1000000) :
    Calls Tryd.prog 85 #[.pointer (some p), .pointer (some q)] w fun e w' => e = .returned (.int .i64 (a + b)) ∧ w = w' := by
  go_enter Tryd.func85, Tryd.ntmps85
  go_wp2
  go_ret
  exact ⟨rfl, rfl⟩

set_option maxHeartbeats 1000000 in
theorem clo_sub (p q : Addr) (a b : Int) (w : World) (hp : w.cell? p = some (.int .i64 a)) (hq : w.cell? q = some (.int .i64 b)) (ha : -1000000 ≤ a ∧ a ≤ 1000000) (hb : -1000000 ≤ b ∧ b ≤ 1000000) :
    Calls Tryd.prog 86 #[.pointer (some p), .pointer (some q)] w fun e w' => e = .returned (.int .i64 (a - b)) ∧ w = w' := by
  go_enter Tryd.func86, Tryd.ntmps86
  go_wp2
  go_ret
  exact ⟨rfl, rfl⟩

set_option maxHeartbeats 1000000 in
theorem clo_mul (p q : Addr) (a b : Int) (w : World) (hp : w.cell? p = some (.int .i64 a)) (hq : w.cell? q = some (.int .i64 b)) (ha : -1000000 ≤ a ∧ a ≤ 1000000) (hb : -1000000 ≤ b ∧ b ≤ 1000000) :
    Calls Tryd.prog 87 #[.pointer (some p), .pointer (some q)] w fun e w' => e = .returned (.int .i64 (a * b)) ∧ w = w' := by
  have h1 : a * b ≤ 1000000000000 := by
    have h2 : (a * b).natAbs ≤ 1000000 * 1000000 := by rw [Int.natAbs_mul]; exact Nat.mul_le_mul (by omega) (by omega)
    omega
  have h2 : -1000000000000 ≤ a * b := by
    have h2 : (a * b).natAbs ≤ 1000000 * 1000000 := by rw [Int.natAbs_mul]; exact Nat.mul_le_mul (by omega) (by omega)
    omega
  have hwr : IntKind.i64.wrap (a * b) = a * b := IntWalk.i64_in _ (by omega)
  go_enter Tryd.func87, Tryd.ntmps87
  go_wp2
  go_ret
  exact ⟨rfl, rfl⟩

set_option maxHeartbeats 1000000 in
theorem clo_eq (p q : Addr) (a b : Int) (w : World) (hp : w.cell? p = some (.int .i64 a)) (hq : w.cell? q = some (.int .i64 b))  :
    Calls Tryd.prog 88 #[.pointer (some p), .pointer (some q)] w fun e w' => e = .returned (.int .i64 (if a = b then 1 else 0)) ∧ w = w' := by
  go_enter Tryd.func88, Tryd.ntmps88
  go_wp2_with fail
  refine (flag_fn _ w).mono ?_
  rintro e w' ⟨rfl, rfl⟩
  go_wp2
  all_goals
    go_ret
    exact ⟨rfl, rfl⟩

set_option maxHeartbeats 1000000 in
theorem clo_lt (p q : Addr) (a b : Int) (w : World) (hp : w.cell? p = some (.int .i64 a)) (hq : w.cell? q = some (.int .i64 b))  :
    Calls Tryd.prog 90 #[.pointer (some p), .pointer (some q)] w fun e w' => e = .returned (.int .i64 (if a < b then 1 else 0)) ∧ w = w' := by
  go_enter Tryd.func90, Tryd.ntmps90
  go_wp2_with fail
  refine (flag_fn _ w).mono ?_
  rintro e w' ⟨rfl, rfl⟩
  go_wp2
  all_goals
    go_ret
    exact ⟨rfl, rfl⟩

set_option maxHeartbeats 1000000 in
theorem clo_and (p q : Addr) (a b : Int) (w : World) (hp : w.cell? p = some (.int .i64 a)) (hq : w.cell? q = some (.int .i64 b)) (ha : a = 0 ∨ a = 1) (hb : b = 0 ∨ b = 1) :
    Calls Tryd.prog 91 #[.pointer (some p), .pointer (some q)] w fun e w' => e = .returned (.int .i64 (if a = 1 ∧ b = 1 then 1 else 0)) ∧ w = w' := by
  rcases ha with rfl | rfl
  all_goals rcases hb with rfl | rfl
  all_goals
    go_enter Tryd.func91, Tryd.ntmps91
    go_wp2
    go_ret
    exact ⟨rfl, rfl⟩

set_option maxHeartbeats 1000000 in
theorem clo_or (p q : Addr) (a b : Int) (w : World) (hp : w.cell? p = some (.int .i64 a)) (hq : w.cell? q = some (.int .i64 b)) (ha : a = 0 ∨ a = 1) (hb : b = 0 ∨ b = 1) :
    Calls Tryd.prog 92 #[.pointer (some p), .pointer (some q)] w fun e w' => e = .returned (.int .i64 (if a = 1 ∨ b = 1 then 1 else 0)) ∧ w = w' := by
  rcases ha with rfl | rfl
  all_goals rcases hb with rfl | rfl
  all_goals
    go_enter Tryd.func92, Tryd.ntmps92
    go_wp2
    go_ret
    exact ⟨rfl, rfl⟩

end Go.Proofs.YtkkbefhnklpfaaaDoor
