/- HoldsK: what is needed of it. No condition. -/
import Derived.Test.YthkiegaifkkegaaDoorHolds
namespace Go.Proofs.YthkiegaifkkegaaDoor
open Go.RowKit
set_option maxRecDepth 100000 in
set_option maxHeartbeats 2000000 in
theorem holds_any (v sv lv : Value) (t : Tm) (Sm Lp : List (List Bool)) (w : World) (h : IsT w v t) (ht : Tab w) (hf : IsF t.flat 3 t) (hw : IsW w sv lv Sm Lp) (ho : WdOk Sm Lp 3) :
    Calls Tryd.prog 10 #[v, .agg #[sv, lv]] w fun e w' => e = .returned (.tuple #[.bool (satB ⟨Sm ++ Lp, Sm.length⟩ t 0), .bool true]) ∧ Ext w w' := by
  have hx := ext_al (Ext.refl w) (Obj.cells #[sv, lv] 28)
  have HM := Lib.hid (wholds_any v sv lv t Sm Lp 3 _ (h.ext hx) (ht.ext hx) hf (hw.ext hx) ho)
  have HX := Lib.hid hx
  obtain ⟨xs, hES, aS, cS, rfl, hrS⟩ := hw.st
  obtain ⟨ys, hEL, aL, cL, rfl, hrL⟩ := hw.lp
  clear hx h ht hf hw ho hES hrS hEL hrL
  generalize satB ⟨Sm ++ Lp, Sm.length⟩ t 0 = b at *
  go_enter Tryd.func10, Tryd.ntmps10
  go_wp2_with fail
  refine HM.out.mono ?_
  rintro e w1 ⟨rfl, hE⟩
  have HE := Lib.hid (HX.out.trans hE)
  clear hE HM
  go_wp2
  go_ret2
  exact ⟨rfl, HE.out⟩
end Go.Proofs.YthkiegaifkkegaaDoor
