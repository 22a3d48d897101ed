/- Several texts in one: Do; Eval; EvalA; EvalB. No condition. -/
import Derived.Test.YtfcaomejbcjfgaaGreatDoorKx11
import Derived.Test.YtfcaomejbcjfgaaGreatDoorKx3
namespace Go.Proofs.YtfcaomejbcjfgaaGreatDoor
open Go.RowKit
def Small (n : Int) : Prop := -1000000 ≤ n ∧ n ≤ 1000000
instance (n : Int) : Decidable (Small n) := by unfold Small; infer_instance
end Go.Proofs.YtfcaomejbcjfgaaGreatDoor

namespace Go.Proofs.YtfcaomejbcjfgaaGreatDoor
theorem good_1 {k v : Int} {a : Tm} {vars : Int} (h : (Tm.n1 k v a).good vars) : a.good vars := fun o ho => h o (by simp [Tm.flat, ho])
theorem good_2 {k v : Int} {a b : Tm} {vars : Int} (h : (Tm.n2 k v a b).good vars) : a.good vars ∧ b.good vars := ⟨fun o ho => h o (by simp [Tm.flat, ho]), fun o ho => h o (by simp [Tm.flat, ho])⟩
structure Sub (t : Tm) (vars : Int) : Prop where
  ok : t.ok
  good : t.good vars
  typed : t.typed = true
theorem Sub.one {k v : Int} {a : Tm} {vars : Int} (h : Sub (.n1 k v a) vars) : Sub a vars ∧ mkK a.kind = tkK k := by
  have := h.typed
  simp only [Tm.typed, Bool.and_eq_true, beq_iff_eq] at this
  exact ⟨⟨h.ok.2.2.2, good_1 h.good, this.2⟩, this.1⟩
theorem Sub.two {k v : Int} {a b : Tm} {vars : Int} (h : Sub (.n2 k v a b) vars) : Sub a vars ∧ Sub b vars ∧ mkK a.kind = tkK k ∧ mkK b.kind = tkK k := by
  have := h.typed
  simp only [Tm.typed, Bool.and_eq_true, beq_iff_eq] at this
  exact ⟨⟨h.ok.2.2.2.1, (good_2 h.good).1, this.1.2⟩, ⟨h.ok.2.2.2.2, (good_2 h.good).2, this.2⟩, this.1.1.1, this.1.1.2⟩
end Go.Proofs.YtfcaomejbcjfgaaGreatDoor

namespace Go.Proofs.YtfcaomejbcjfgaaGreatDoor
open Go.RowKit
end Go.Proofs.YtfcaomejbcjfgaaGreatDoor

namespace Go.Proofs.YtfcaomejbcjfgaaGreatDoor
open Go.RowKit
end Go.Proofs.YtfcaomejbcjfgaaGreatDoor
