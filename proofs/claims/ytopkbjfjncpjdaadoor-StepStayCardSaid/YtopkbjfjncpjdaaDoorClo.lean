/- Clo: what is needed of it. No condition. -/
import Derived.Test.YtopkbjfjncpjdaaDoorMach
namespace Go.Proofs.YtopkbjfjncpjdaaDoor
open Go.RowKit
set_option maxHeartbeats 1000000 in
theorem clo_add (p q : Addr) (a b : Int) (w : World) (hp : w.cell? p = some (.int .i64 a)) (hq : w.cell? q = some (.int .i64 b)) (ha : -1000000 ≤ a ∧ a ≤ 1000000) (hb : -1000000 ≤ b ∧ b ≤ 1000000) :
    Calls Tryd.prog 39 #[.pointer (some p), .pointer (some q)] w fun e w' => e = .returned (.int .i64 (a + b)) ∧ w = w' := by
  go_enter Tryd.func39, Tryd.ntmps39
  go_wp2
  go_ret
  exact ⟨rfl, rfl⟩
set_option maxHeartbeats 1000000 in
theorem clo_sub (p q : Addr) (a b : Int) (w : World) (hp : w.cell? p = some (.int .i64 a)) (hq : w.cell? q = some (.int .i64 b)) (ha : -1000000 ≤ a ∧ a ≤ 1000000) (hb : -1000000 ≤ b ∧ b ≤ 1000000) :
    Calls Tryd.prog 40 #[.pointer (some p), .pointer (some q)] w fun e w' => e = .returned (.int .i64 (a - b)) ∧ w = w' := by
  go_enter Tryd.func40, Tryd.ntmps40
  go_wp2
  go_ret
  exact ⟨rfl, rfl⟩
set_option maxHeartbeats 1000000 in
theorem clo_mul (p q : Addr) (a b : Int) (w : World) (hp : w.cell? p = some (.int .i64 a)) (hq : w.cell? q = some (.int .i64 b)) (ha : -1000000 ≤ a ∧ a ≤ 1000000) (hb : -1000000 ≤ b ∧ b ≤ 1000000) :
    Calls Tryd.prog 41 #[.pointer (some p), .pointer (some q)] w fun e w' => e = .returned (.int .i64 (a * b)) ∧ w = w' := by
  have h1 : a * b ≤ 1000000000000 := by
    have h2 : (a * b).natAbs ≤ 1000000 * 1000000 := by rw [Int.natAbs_mul]; exact Nat.mul_le_mul (by omega) (by omega)
    omega
  have h2 : -1000000000000 ≤ a * b := by
    have h2 : (a * b).natAbs ≤ 1000000 * 1000000 := by rw [Int.natAbs_mul]; exact Nat.mul_le_mul (by omega) (by omega)
    omega
  have hwr : IntKind.i64.wrap (a * b) = a * b := IntWalk.i64_in _ (by omega)
  go_enter Tryd.func41, Tryd.ntmps41
  go_wp2
  go_ret
  exact ⟨rfl, rfl⟩
set_option maxHeartbeats 1000000 in
theorem clo_eq (p q : Addr) (a b : Int) (w : World) (hp : w.cell? p = some (.int .i64 a)) (hq : w.cell? q = some (.int .i64 b))  :
    Calls Tryd.prog 42 #[.pointer (some p), .pointer (some q)] w fun e w' => e = .returned (.int .i64 (if a = b then 1 else 0)) ∧ w = w' := by
  go_enter Tryd.func42, Tryd.ntmps42
  go_wp2_with fail
  refine (flag_fn _ w).mono ?_
  rintro e w' ⟨rfl, rfl⟩
  go_wp2
  all_goals
    go_ret
    exact ⟨rfl, rfl⟩
set_option maxHeartbeats 1000000 in
theorem clo_lt (p q : Addr) (a b : Int) (w : World) (hp : w.cell? p = some (.int .i64 a)) (hq : w.cell? q = some (.int .i64 b))  :
    Calls Tryd.prog 44 #[.pointer (some p), .pointer (some q)] w fun e w' => e = .returned (.int .i64 (if a < b then 1 else 0)) ∧ w = w' := by
  go_enter Tryd.func44, Tryd.ntmps44
  go_wp2_with fail
  refine (flag_fn _ w).mono ?_
  rintro e w' ⟨rfl, rfl⟩
  go_wp2
  all_goals
    go_ret
    exact ⟨rfl, rfl⟩
set_option maxHeartbeats 1000000 in
theorem clo_and (p q : Addr) (a b : Int) (w : World) (hp : w.cell? p = some (.int .i64 a)) (hq : w.cell? q = some (.int .i64 b)) (ha : a = 0 ∨ a = 1) (hb : b = 0 ∨ b = 1) :
    Calls Tryd.prog 45 #[.pointer (some p), .pointer (some q)] w fun e w' => e = .returned (.int .i64 (if a = 1 ∧ b = 1 then 1 else 0)) ∧ w = w' := by
  rcases ha with rfl | rfl
  all_goals rcases hb with rfl | rfl
  all_goals
    go_enter Tryd.func45, Tryd.ntmps45
    go_wp2
    go_ret
    exact ⟨rfl, rfl⟩
set_option maxHeartbeats 1000000 in
theorem clo_or (p q : Addr) (a b : Int) (w : World) (hp : w.cell? p = some (.int .i64 a)) (hq : w.cell? q = some (.int .i64 b)) (ha : a = 0 ∨ a = 1) (hb : b = 0 ∨ b = 1) :
    Calls Tryd.prog 46 #[.pointer (some p), .pointer (some q)] w fun e w' => e = .returned (.int .i64 (if a = 1 ∨ b = 1 then 1 else 0)) ∧ w = w' := by
  rcases ha with rfl | rfl
  all_goals rcases hb with rfl | rfl
  all_goals
    go_enter Tryd.func46, Tryd.ntmps46
    go_wp2
    go_ret
    exact ⟨rfl, rfl⟩
end Go.Proofs.YtopkbjfjncpjdaaDoor
