/- Plain: two variables' cells, while their names grow. No condition. -/
import Derived.Test.YtbmimdnpchldlaaGreatDoorKtTopN2
import Derived.Test.YtbmimdnpchldlaaGreatDoorKt10
namespace Go.Proofs.YtbmimdnpchldlaaGreatDoor
open Go.RowKit

theorem vars_two {w : World} {a : Option Addr} {c : Nat} {x y : Vr} (h : IsVars w (.slice a 2 c) [x, y]) : Row w 4 a 2 c (vrc x ++ vrc y) := by
  obtain ⟨css, hl, _, ⟨a', c', e, hr⟩, he⟩ := h
  simp only [List.length_cons, List.length_nil, Value.slice.injEq, true_and] at e
  obtain ⟨rfl, rfl⟩ := e
  match css, hl with
  | [p, q], _ =>
    have h0 : p = vrc x := he 0 p x rfl rfl
    have h1 : q = vrc y := he 1 q y rfl rfl
    subst h0; subst h1
    simpa using hr
def nmV (x y : Vr) (i : Nat) : List Value :=
  [.string (if 0 < i then qX else nmX), .int .i64 x.low, .int .i64 x.high, .int .i64 x.init, .string (if 1 < i then qY else nmY), .int .i64 y.low, .int .i64 y.high, .int .i64 y.init]
theorem nmV_zero {x y : Vr} (h1 : x.name = nmX) (h2 : y.name = nmY) : vrc x ++ vrc y = nmV x y 0 := by simp [vrc, nmV, h1, h2]
theorem vars_three {w : World} {a : Option Addr} {c : Nat} {x y : Vr} {k : Int} (h : Reads w 4 (.slice a 3 c) 3 (nmV x y 2 ++ [.string nmI, .int .i64 0, .int .i64 k, .int .i64 0])) (m : Md) : IsVars w (.slice a 3 c) (namesM m x y k).vars := by
  refine ⟨[vrc { x with name := qX }, vrc { y with name := qY }, vrc ⟨nmI, 0, k, 0⟩], rfl, by simp [vrc], h, fun i cs v h1 h2 => ?_⟩
  match i with
  | 0 => simp [namesM] at h1 h2; subst h1; subst h2; rfl
  | 1 => simp [namesM] at h1 h2; subst h1; subst h2; rfl
  | 2 => simp [namesM] at h1 h2; subst h1; subst h2; rfl
  | i + 3 => simp at h1
theorem hs_step3 {P : Program} {ops : Array Oper} {w : World} {Q : Act → Prop} {a : Act} {o : Oper} {rest : List Oper}
    (h : ∀ K : Act → Prop, (∀ a, Shut (wpStill P ops w Q rest a) → K a) → if Region.wanted o (yielded ops a.tmps) then o.still P a w K else K (a.put o.dst undef)) : Shut (wpStill P ops w Q (o :: rest) a) :=
  ⟨wpStill_step fun K hK => h K fun a ha => hK a ha.out⟩
theorem hs_nil3 {P : Program} {ops : Array Oper} {w : World} {Q : Act → Prop} {a : Act} (h : Q a) : Shut (wpStill P ops w Q [] a) := ⟨wpStill_nil h⟩

end Go.Proofs.YtbmimdnpchldlaaGreatDoor
