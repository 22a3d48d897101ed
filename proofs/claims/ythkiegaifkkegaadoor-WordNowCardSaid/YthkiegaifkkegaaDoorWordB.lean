/- WordB: what is needed of it. No condition. -/
import Derived.Test.YthkiegaifkkegaaDoorWordA
namespace Go.Proofs.YthkiegaifkkegaaDoor
open Go.RowKit
set_option maxRecDepth 100000 in
theorem behind_any (w : World) (T : Nat) (fv ev rv : Value) (al : Option Addr) (n cl back i : Nat) (h : w.heap[T]? = some (.cells #[fv, ev, .slice al n cl, .int .i64 (back : Int), rv] 52 (0, 0))) (hi : i ≤ 1000) :
    Calls Tryd.prog 34 #[.pointer (some ⟨T, 0, none⟩), .int .i64 (i : Int)] w fun e w' => e = .returned (.int .i64 (nxt n back i : Int)) ∧ w = w' := by
  have c2 := blk_cell h (i := 2) rfl
  have c3 := blk_cell h (i := 3) rfl
  clear h
  by_cases hlt : i + 1 < n
  · have hn : nxt n back i = i + 1 := by unfold nxt; rw [if_pos hlt]
    have hI : (i : Int) + 1 < (n : Int) := by omega
    rw [hn]
    clear hn
    go_enter Tryd.func34, Tryd.ntmps34
    go_wp2
    go_ret
    exact ⟨by go_num, rfl⟩
  · have hn : nxt n back i = back := by unfold nxt; rw [if_neg hlt]
    have hI : ¬ (i : Int) + 1 < (n : Int) := by omega
    rw [hn]
    clear hn
    go_enter Tryd.func34, Tryd.ntmps34
    go_wp2
    go_ret
    exact ⟨rfl, rfl⟩
section
variable (w : World) (A R n i : Nat) (b later : Bool) (hA : w.heap[A]? = some (.cells #[.slice (some ⟨R, 0, none⟩) n n] 32 (0, 0))) (hc : w.cell? ⟨R, i, none⟩ = some (.bool b)) (hi : i < n)
include hA hc hi
set_option maxRecDepth 100000 in
theorem law_fin : Calls Tryd.prog 30 #[.int .i64 (i : Int), .bool later, .pointer (some ⟨A, 0, none⟩)] w fun e w' => e = .returned (.bool (b || later)) ∧ w = w' := by
  have c0 := blk_cell hA (i := 0) rfl
  have hI : (i : Int) < (n : Int) := by omega
  have h0 : (0 : Int) ≤ (i : Int) := by omega
  clear hA
  cases b <;> cases later
  all_goals
    go_enter Tryd.func30, Tryd.ntmps30
    go_wp2
    go_ret
    exact ⟨rfl, rfl⟩
set_option maxRecDepth 100000 in
theorem law_glo : Calls Tryd.prog 31 #[.int .i64 (i : Int), .bool later, .pointer (some ⟨A, 0, none⟩)] w fun e w' => e = .returned (.bool (b && later)) ∧ w = w' := by
  have c0 := blk_cell hA (i := 0) rfl
  have hI : (i : Int) < (n : Int) := by omega
  have h0 : (0 : Int) ≤ (i : Int) := by omega
  clear hA
  cases b <;> cases later
  all_goals
    go_enter Tryd.func31, Tryd.ntmps31
    go_wp2
    go_ret
    exact ⟨rfl, rfl⟩
variable (B S : Nat) (d : Bool) (hB : w.heap[B]? = some (.cells #[.slice (some ⟨S, 0, none⟩) n n] 32 (0, 0))) (hd : w.cell? ⟨S, i, none⟩ = some (.bool d))
include hB hd
set_option maxRecDepth 100000 in
theorem law_unt : Calls Tryd.prog 32 #[.int .i64 (i : Int), .bool later, .pointer (some ⟨B, 0, none⟩), .pointer (some ⟨A, 0, none⟩)] w fun e w' => e = .returned (.bool (d || (b && later))) ∧ w = w' := by
  have c0 := blk_cell hA (i := 0) rfl
  have c1 := blk_cell hB (i := 0) rfl
  have hI : (i : Int) < (n : Int) := by omega
  have h0 : (0 : Int) ≤ (i : Int) := by omega
  clear hA hB
  cases d <;> cases b <;> cases later
  all_goals
    go_enter Tryd.func32, Tryd.ntmps32
    go_wp2
    go_ret
    exact ⟨rfl, rfl⟩
set_option maxRecDepth 100000 in
theorem law_rel : Calls Tryd.prog 33 #[.int .i64 (i : Int), .bool later, .pointer (some ⟨B, 0, none⟩), .pointer (some ⟨A, 0, none⟩)] w fun e w' => e = .returned (.bool (d && (b || later))) ∧ w = w' := by
  have c0 := blk_cell hA (i := 0) rfl
  have c1 := blk_cell hB (i := 0) rfl
  have hI : (i : Int) < (n : Int) := by omega
  have h0 : (0 : Int) ≤ (i : Int) := by omega
  clear hA hB
  cases d <;> cases b <;> cases later
  all_goals
    go_enter Tryd.func33, Tryd.ntmps33
    go_wp2
    go_ret
    exact ⟨rfl, rfl⟩
end
end Go.Proofs.YthkiegaifkkegaaDoor
