/- Contracts: foretellkeep.env, foretellkeep.num. -/
import Derived.Test.YtjjamfbjapbkgaaDoorEvalB
import Derived.Deep.RegionHeld3
namespace Go.Proofs.YtjjamfbjapbkgaaDoor
open Go.RowKit

/-- The three cells of an array. -/
theorem arr_later {w wx : World} {g : Nat} {u v x : Value} (hb : Ext w wx) (h : w.cell? ⟨g, 0, none⟩ = some u ∧ w.cell? ⟨g, 1, none⟩ = some v ∧ w.cell? ⟨g, 2, none⟩ = some x) : wx.cell? ⟨g, 0, none⟩ = some u ∧ wx.cell? ⟨g, 1, none⟩ = some v ∧ wx.cell? ⟨g, 2, none⟩ = some x :=
  ⟨cell_later hb h.1, cell_later hb h.2.1, cell_later hb h.2.2⟩

def envL (x y z : Int) : List Int := [pk x 9, pk y 9, pk z 9]

theorem env_small (x y z : Int) : ∀ n ∈ envL x y z, Small n := by
  intro n hn
  have h1 := pk_bd x 9 (by omega)
  have h2 := pk_bd y 9 (by omega)
  have h3 := pk_bd z 9 (by omega)
  simp only [envL, List.mem_cons, List.not_mem_nil, or_false] at hn
  unfold Small
  rcases hn with rfl | rfl | rfl <;> omega

theorem env_len (x y z : Int) : (envL x y z).length = 3 := rfl

/-! What drawn terms come to: nothing is too great. -/
theorem over_of {n : Int} (h : Small n) : over n = some n := by unfold over; rw [if_pos h]

theorem env_get (x y z : Int) (v : Nat) : 0 ≤ (envL x y z).getD v 0 ∧ (envL x y z).getD v 0 ≤ 8 := by
  have h1 := pk_bd x 9 (by omega)
  have h2 := pk_bd y 9 (by omega)
  have h3 := pk_bd z 9 (by omega)
  match v with
  | 0 => show 0 ≤ pk x 9 ∧ pk x 9 ≤ 8; omega
  | 1 => show 0 ≤ pk y 9 ∧ pk y 9 ≤ 8; omega
  | 2 => show 0 ≤ pk z 9 ∧ pk z 9 ≤ 8; omega
  | v + 3 => show (0 : Int) ≤ 0 ∧ (0 : Int) ≤ 8; omega

theorem numLeaf_eval (x y z : Int) (r : Op2) (vars k : Int) : ∃ n, evalT (envL x y z) (numLeaf r vars k) = some n ∧ n.natAbs ≤ 8 := by
  unfold numLeaf
  split
  · have h := env_get x y z (pk r.2 vars).toNat
    refine ⟨_, over_of (n := leafV (envL x y z) 2 (pk r.2 vars)) ?_, ?_⟩
    · show Small ((envL x y z).getD (pk r.2 vars).toNat 0); unfold Small; omega
    · show ((envL x y z).getD (pk r.2 vars).toNat 0).natAbs ≤ 8; omega
  · have h := pk_bd r.2 9 (by omega)
    refine ⟨_, over_of (n := leafV (envL x y z) 1 (pk r.2 9 - 4)) ?_, ?_⟩
    · show Small (pk r.2 9 - 4); unfold Small; omega
    · show (pk r.2 9 - 4).natAbs ≤ 8; omega

/-- An op of two numbers. -/
theorem opV_bd (k a b : Int) (m : Nat) (hk : 3 ≤ k) (hk2 : k ≤ 5) (hm : 2 ≤ m) (ha : a.natAbs ≤ m) (hb : b.natAbs ≤ m) : (opV k a b).natAbs ≤ m * m := by
  have h2 : 2 * m ≤ m * m := Nat.mul_le_mul_right m hm
  have h : k = 3 ∨ k = 4 ∨ k = 5 := by omega
  rcases h with rfl | rfl | rfl
  · show (a + b).natAbs ≤ m * m; omega
  · show (a - b).natAbs ≤ m * m; omega
  · show (a * b).natAbs ≤ m * m; rw [Int.natAbs_mul]; exact Nat.mul_le_mul ha hb

theorem evalT_two {env : List Int} {k v : Int} {a b : Tm} {x y : Int} (ha : evalT env a = some x) (hb : evalT env b = some y) : evalT env (.n2 k v a b) = over (opV k x y) := by simp [evalT, ha, hb]
theorem evalT_one {env : List Int} {k v : Int} {a : Tm} {x : Int} (ha : evalT env a = some x) : evalT env (.n1 k v a) = over (1 - x) := by simp [evalT, ha]

theorem num1_eval (x y z : Int) (raw : List Op2) (vars : Int) (p : Nat) : ∃ n, evalT (envL x y z) (numT raw vars 1 p).1 = some n ∧ n.natAbs ≤ 64 := by
  unfold numT
  split
  · obtain ⟨n, h1, h2⟩ := numLeaf_eval x y z (rawAt raw p) vars (numKind (rawAt raw p) p)
    exact ⟨n, h1, by omega⟩
  · have hk := numKind_bd (rawAt raw p) p
    obtain ⟨a, a1, a2⟩ : ∃ n, evalT (envL x y z) (numT raw vars 0 (p + 1)).1 = some n ∧ n.natAbs ≤ 8 := by unfold numT; exact numLeaf_eval _ _ _ _ _ _
    obtain ⟨b, b1, b2⟩ : ∃ n, evalT (envL x y z) (numT raw vars 0 (numT raw vars 0 (p + 1)).2).1 = some n ∧ n.natAbs ≤ 8 := by unfold numT; exact numLeaf_eval _ _ _ _ _ _
    have hb := opV_bd (numKind (rawAt raw p) p + 1) a b 8 (by omega) (by omega) (by omega) a2 b2
    exact ⟨_, (evalT_two a1 b1).trans (over_of (by unfold Small; omega)), by omega⟩

theorem num2_eval (x y z : Int) (raw : List Op2) (vars : Int) (p : Nat) : ∃ n, evalT (envL x y z) (numT raw vars 2 p).1 = some n ∧ n.natAbs ≤ 4096 := by
  unfold numT
  split
  · obtain ⟨n, h1, h2⟩ := numLeaf_eval x y z (rawAt raw p) vars (numKind (rawAt raw p) p)
    exact ⟨n, h1, by omega⟩
  · have hk := numKind_bd (rawAt raw p) p
    obtain ⟨a, a1, a2⟩ := num1_eval x y z raw vars (p + 1)
    obtain ⟨b, b1, b2⟩ := num1_eval x y z raw vars (numT raw vars 1 (p + 1)).2
    have hb := opV_bd (numKind (rawAt raw p) p + 1) a b 64 (by omega) (by omega) (by omega) a2 b2
    exact ⟨_, (evalT_two a1 b1).trans (over_of (by unfold Small; omega)), by omega⟩

theorem opV_01 (k a b : Int) (hk : 6 ≤ k) : opV k a b = 0 ∨ opV k a b = 1 := by
  unfold opV
  rw [if_neg (by omega), if_neg (by omega), if_neg (by omega)]
  repeat' split
  all_goals simp

theorem cmp_eval (x y z : Int) (raw : List Op2) (vars k : Int) (p : Nat) : ∃ n, evalT (envL x y z) (cmpT raw vars k p).1 = some n ∧ (n = 0 ∨ n = 1) := by
  unfold cmpT
  obtain ⟨a, a1, a2⟩ := num1_eval x y z raw vars (p + 1)
  obtain ⟨b, b1, b2⟩ := num1_eval x y z raw vars (numT raw vars 1 (p + 1)).2
  have h := opV_01 (6 + k % 2) a b (by omega)
  exact ⟨_, (evalT_two a1 b1).trans (over_of (by unfold Small; omega)), h⟩

theorem tru_eval (x y z : Int) (raw : List Op2) (vars : Int) : ∀ d p, ∃ n, evalT (envL x y z) (truT raw vars d p).1 = some n ∧ (n = 0 ∨ n = 1) := by
  have leaf : ∀ p, ∃ n, evalT (envL x y z) (Tm.n0 (11 + pk (rawAt raw p).2 2) 0) = some n ∧ (n = 0 ∨ n = 1) := by
    intro p
    have h := pk_bd (rawAt raw p).2 2 (by omega)
    have h2 : leafV (envL x y z) (11 + pk (rawAt raw p).2 2) 0 = 0 ∨ leafV (envL x y z) (11 + pk (rawAt raw p).2 2) 0 = 1 := by
      unfold leafV
      rw [if_neg (by omega), if_neg (by omega)]
      split <;> simp
    exact ⟨_, over_of (by unfold Small; omega), h2⟩
  intro d
  induction d with
  | zero => intro p; unfold truT; split; (· exact leaf p); · exact cmp_eval _ _ _ _ _ _ _
  | succ d ih =>
    intro p
    unfold truT
    split
    · exact leaf p
    · split
      · exact cmp_eval _ _ _ _ _ _ _
      · obtain ⟨a, a1, a2⟩ := ih (p + 1)
        obtain ⟨b, b1, b2⟩ := ih (truT raw vars d (p + 1)).2
        split
        · exact ⟨_, (evalT_one a1).trans (over_of (by unfold Small; omega)), by omega⟩
        · have h := opV_01 (8 + truKind (rawAt raw p) (d + 1) p % 2) a b (by omega)
          exact ⟨_, (evalT_two a1 b1).trans (over_of (by unfold Small; omega)), h⟩

theorem numO_eval (x y z : Int) (raw : List Op2) (vars : Int) : ∃ n, evalT (envL x y z) (numO raw vars) = some n ∧ n.natAbs ≤ 4096 := num2_eval x y z raw vars 0
theorem truO_eval (x y z : Int) (raw : List Op2) (vars : Int) : ∃ n, evalT (envL x y z) (truO raw vars) = some n ∧ (n = 0 ∨ n = 1) := tru_eval x y z raw vars 3 0

set_option maxRecDepth 100000 in
set_option maxHeartbeats 2000000 in
theorem env_any (x y z : Int) (w : World) (hx : I64 x) (hy : I64 y) (hz : I64 z) :
    Calls Tryd.prog 25 #[.agg #[.int .i64 x, .int .i64 y, .int .i64 z]] w fun e w' => ∃ v', e = .returned v' ∧ Ints w' v' (envL x y z) ∧ Ext w w' := by
  have hE : Ext w (w.alloc (Obj.cells #[.int .i64 x, .int .i64 y, .int .i64 z] 45)) := (Ext.refl w).alloc (Nat.le_refl _) _
  have a0 : (w.alloc (Obj.cells #[.int .i64 x, .int .i64 y, .int .i64 z] 45)).cell? ⟨w.heap.size, 0, none⟩ = some (.int .i64 x) := by simp [go_sem]
  have a1 : (w.alloc (Obj.cells #[.int .i64 x, .int .i64 y, .int .i64 z] 45)).cell? ⟨w.heap.size, 1, none⟩ = some (.int .i64 y) := by simp [go_sem]
  have a2 : (w.alloc (Obj.cells #[.int .i64 x, .int .i64 y, .int .i64 z] 45)).cell? ⟨w.heap.size, 2, none⟩ = some (.int .i64 z) := by simp [go_sem]
  unfold I64 at hx hy hz
  go_enter Tryd.func25, Tryd.ntmps25
  go_wp2_with fail
  generalize hW : w.alloc (Obj.cells #[.int .i64 x, .int .i64 y, .int .i64 z] 45) = W at *
  clear hW
  go_region_held3 (fun w' => w'.cell? ⟨w.heap.size, 0, none⟩ = some (.int .i64 x) ∧ w'.cell? ⟨w.heap.size, 1, none⟩ = some (.int .i64 y) ∧ w'.cell? ⟨w.heap.size, 2, none⟩ = some (.int .i64 z))
    (first | exact ⟨a0, a1, a2⟩ | go_keep)
    (first
      | (go_at_call 16
         refine (picked_any _ 9 _ (by omega) (by omega) (by omega) (by omega)).mono ?_
         rintro e w1 ⟨rfl, rfl⟩))
  go_wp2
  go_ret
  have hr := Row.new W 3 [.int .i64 (pk x 9), .int .i64 (pk y 9), .int .i64 (pk z 9)] (by simp [maxLen])
  exact ⟨_, rfl, ⟨_, _, rfl, hr.drew⟩, (hE.alloc hE.size _).drew⟩

set_option maxRecDepth 100000 in
theorem num_any (n : Int) (w : World) :
    Calls Tryd.prog 26 #[.int .i64 n] w fun e w' => ∃ v', e = .returned v' ∧ IsT w' v' (.n0 1 n) ∧ Ext w w' := by
  go_enter Tryd.func26, Tryd.ntmps26
  go_wp2
  go_ret
  exact ⟨_, rfl, ⟨_, _, rfl, Row.newOp _ _ _ _⟩, (Ext.refl w).alloc (Nat.le_refl _) _⟩

end Go.Proofs.YtjjamfbjapbkgaaDoor
