/- What laws need of a term that was drawn; Check of it. No condition. -/
import Derived.Test.YtkkbefhnklpfaaaDoorRawT
import Derived.Test.YtkkbefhnklpfaaaDoorJoinT
namespace Go.Proofs.YtkkbefhnklpfaaaDoor
open Go.RowKit

/-- What the laws need of a term that was drawn. -/
structure Fit (t : Tm) (vars : Int) (n : Nat) (truth : Bool) : Prop where
  ok : t.ok
  typed : t.typed = true
  kind : mkK t.kind = truth
  good : t.good vars
  size : t.size ≤ n

theorem fit_num (raw : List Op2) (vars : Int) (h : vars ≤ 1000) : Fit (numO raw vars) vars 7 false := by
  obtain ⟨h1, h2, h3⟩ := numT_typed raw vars h 2 0
  exact ⟨numT_ok raw vars 2 0, h1, h2, h3, numT_two raw vars 0⟩

theorem fit_tru (raw : List Op2) (vars : Int) (h : vars ≤ 1000) : Fit (truO raw vars) vars 26 true := by
  obtain ⟨h1, h2, h3⟩ := truT_typed raw vars h 3 0
  exact ⟨truT_ok raw vars 3 0, h1, h2, h3, truT_small raw vars⟩

theorem ok_n2 {k : Int} {a b : Tm} (hk : 3 ≤ k ∧ k ≤ 9) (ha : a.ok) (hb : b.ok) : (Tm.n2 k 0 a b).ok := by
  refine ⟨by omega, by omega, ?_, ha, hb⟩
  unfold partsOf
  rw [if_pos (by omega)]

theorem ok_n1 {a : Tm} (ha : a.ok) : (Tm.n1 10 0 a).ok := by
  refine ⟨by omega, by omega, ?_, ha⟩
  unfold partsOf
  simp

/-- Check of a term of two parts, or of one. -/
theorem check_n2 (k : Int) (b : Bool) (c : Int) (v : Value) (x y : Tm) (vars : Int) (w : World) (m n : Nat) (p q : Bool) (h : IsT w v (.n2 k 0 x y)) (ht : Tab w) (h1 : 0 ≤ vars) (h2 : vars ≤ 6) (hx : Fit x vars m p) (hy : Fit y vars n q) (hk : 3 ≤ k ∧ k ≤ 9) (hmn : m + n < 60)
    (hb : b = ((p == tkK k && q == tkK k) && mkK k)) (hc : c = if (p == tkK k && q == tkK k) then 0 else 5) :
    Calls Tryd.prog 65 #[v, .int .i64 vars] w fun e w' => e = .returned (.tuple #[.bool b, .int .i64 c]) ∧ Ext w w' := by
  have hty : (Tm.n2 k 0 x y).typed = (p == tkK k && q == tkK k) := by simp [Tm.typed, hx.typed, hy.typed, hx.kind, hy.kind]
  have := check_t v (.n2 k 0 x y) vars w h ht h1 h2 (ok_n2 hk hx.ok hy.ok) (by have := hx.size; have := hy.size; simp only [Tm.size]; omega) (good_n2 (by omega) (by omega) hx.good hy.good)
  rw [hty] at this
  rw [hb, hc]
  exact this

theorem check_n1 (b : Bool) (c : Int) (v : Value) (x : Tm) (vars : Int) (w : World) (m : Nat) (p : Bool) (h : IsT w v (.n1 10 0 x)) (ht : Tab w) (h1 : 0 ≤ vars) (h2 : vars ≤ 6) (hx : Fit x vars m p) (hmn : m < 60)
    (hb : b = p) (hc : c = if p then 0 else 5) :
    Calls Tryd.prog 65 #[v, .int .i64 vars] w fun e w' => e = .returned (.tuple #[.bool b, .int .i64 c]) ∧ Ext w w' := by
  have hty : (Tm.n1 10 0 x).typed = p := by
    have : tkK 10 = true := rfl
    simp [Tm.typed, hx.typed, hx.kind, this]
  have := check_t v (.n1 10 0 x) vars w h ht h1 h2 (ok_n1 hx.ok) (by have := hx.size; simp only [Tm.size]; omega) (good_n1 (by omega) (by omega) hx.good)
  rw [hty] at this
  rw [hb, hc]
  have e : mkK (Tm.n1 10 0 x).kind = true := rfl
  rw [e, Bool.and_true] at this
  exact this

theorem check_one (b : Bool) (v : Value) (x : Tm) (vars : Int) (w : World) (m : Nat) (p : Bool) (h : IsT w v x) (ht : Tab w) (h1 : 0 ≤ vars) (h2 : vars ≤ 6) (hx : Fit x vars m p) (hmn : m ≤ 60) (hb : b = p) :
    Calls Tryd.prog 65 #[v, .int .i64 vars] w fun e w' => e = .returned (.tuple #[.bool b, .int .i64 0]) ∧ Ext w w' := by
  have := check_t v x vars w h ht h1 h2 hx.ok (by have := hx.size; omega) hx.good
  rw [hx.typed, hx.kind] at this
  subst hb
  simpa using this


end Go.Proofs.YtkkbefhnklpfaaaDoor
