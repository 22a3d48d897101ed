/- Pick: what is needed of it. No condition. -/
import Derived.Test.YtopkbjfjncpjdaaDoorBase
namespace Go.Proofs.YtopkbjfjncpjdaaDoor
open Go.RowKit
def pk (n m : Int) : Int := (if n < 0 then -(n + 1) else n) % m
theorem pk_bd (n m : Int) (h : 0 < m) : 0 ≤ pk n m ∧ pk n m < m := ⟨Int.emod_nonneg _ (by omega), Int.emod_lt_of_pos _ h⟩
set_option maxHeartbeats 400000 in
theorem picked_any (n m : Int) (w : World) (h1 : -9223372036854775808 ≤ n) (h2 : n ≤ 9223372036854775807) (h3 : 0 < m) (h4 : m ≤ 9223372036854775807) :
    Calls Tryd.prog 6 #[.int .i64 n, .int .i64 m] w fun e w' => e = .returned (.int .i64 (pk n m)) ∧ w = w' := by
  by_cases hn : n < 0
  · have e : pk n m = -(n + 1) % m := by simp [pk, hn]
    rw [e]
    clear e
    rw [← Int.tmod_eq_emod_of_nonneg (by omega), Int.neg_tmod]
    go_enter Tryd.func6, Tryd.ntmps6
    go_wp2
    go_ret
    exact ⟨rfl, rfl⟩
  · have e : pk n m = n % m := by simp [pk, hn]
    rw [e]
    clear e
    have h5 : 0 ≤ n := by omega
    go_enter Tryd.func6, Tryd.ntmps6
    go_wp2
    go_ret
    exact ⟨rfl, rfl⟩
end Go.Proofs.YtopkbjfjncpjdaaDoor
