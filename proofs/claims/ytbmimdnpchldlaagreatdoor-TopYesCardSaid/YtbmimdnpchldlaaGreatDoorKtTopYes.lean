/- The law TopYes. -/
import Derived.Test.YtbmimdnpchldlaaGreatDoorKt15
namespace Go.Proofs.YtbmimdnpchldlaaGreatDoor
open Go.RowKit

set_option maxRecDepth 100000 in
set_option maxHeartbeats 16000000 in
theorem topYes_law (cs : Array Value) (W : World) (ht : Tab W) (h0 : Cells Tryz.prog W 25 cs.toList) :
    Calls Tryz.prog 9 #[.agg cs] W fun e w' => e = .returned (.bool true) ∧ Ext W w' := by
  obtain ⟨d, pv, rfl, hpl, hd⟩ := design_of h0
  have EE := ext_al (Ext.refl W) (Obj.cells (dnc d pv) 25)
  have HB := blk_new W (Obj.cells (dnc d pv) 25)
  have HH := Lib.hid fun (fv : Value) (t : Tm) (wx : World) (b : Bool) (hx : Ext (W.alloc (Obj.cells (dnc d pv) 25)) wx) (hf : IsT wx fv t) (a c : Nat) (hF : Fm t a c) (ha : a ≤ 60) (hc : c ≤ 6) (hb : holdsB d.md propT t = b) => tholds_b pv fv d t wx ((ht.ext EE).ext hx) ((hpl.ext EE).ext hx) hd hf hF ha hc b hb
  have hPre := d.drawn.ok.toPre
  have E11 := Lib.hid (holdsB_yes d.md propT 0)
  have E12 := Lib.hid (holdsB_no hPre propT 0)
  simp only [dnc] at HH EE HB ⊢
  generalize d.md = md at *
  have cur := d7_of HB
  clear ht hpl hd HB hPre h0
  go_enter Tryz.func9, Tryz.ntmps9
  go_wp2_with fail
  obtain ⟨dB, hdB⟩ : ∃ x, W.heap.size = x := ⟨_, rfl⟩
  rw [hdB] at cur ⊢
  obtain ⟨w0, hw0⟩ : ∃ x, W.alloc (Obj.cells #[.int .i64 d.s0, .int .i64 d.s1, .int .i64 d.l0, .int .i64 d.l1, .int .i64 d.i0, .int .i64 d.i1, pv] 25) = x := ⟨_, rfl⟩
  rw [hw0] at HH EE cur ⊢
  have HZ := Lib.hid (show dB + 1 = w0.heap.size from by rw [← hw0, ← hdB]; simp)
  clear hw0 hdB
  have EX := Ext.refl w0
  have hE := Ext.refl w0
  clear hE
  have hE := ext_al (Ext.refl w0) (Obj.cells #[.int .i64 11, .int .i64 0] 75)
  refine (HH.out _ _ _ _ (EX.trans hE) (isT_lit w0 75 11 0 _ HZ.out) _ _ fm_yes (by omega) (by omega) E11.out).mono ?_
  rintro e wz ⟨rfl, hF⟩
  replace hE := hE.trans hF
  clear hF
  replace cur := d7_later hE cur
  replace EX := EX.trans hE
  clear hE
  obtain ⟨wn, rfl⟩ : ∃ x, x = wz := ⟨_, rfl⟩
  obtain ⟨q0, q1, q2, q3, q4, q5, q6⟩ := id cur
  go_wp2_with fail
  clear q0 q1 q2 q3 q4 q5 q6
  have hE := ext_al (Ext.refl wn) (Obj.cells #[.int .i64 12, .int .i64 0] 75)
  refine (HH.out _ _ _ _ (EX.trans hE) (isT_lit wn 75 12 0 _ rfl) _ _ fm_no (by omega) (by omega) E12.out).mono ?_
  rintro e wz ⟨rfl, hF⟩
  replace hE := hE.trans hF
  clear hF
  replace cur := d7_later hE cur
  replace EX := EX.trans hE
  clear hE
  obtain ⟨wn, rfl⟩ : ∃ x, x = wz := ⟨_, rfl⟩
  clear HH cur
  go_wp2
  go_ret
  exact ⟨rfl, EE.trans EX⟩

end Go.Proofs.YtbmimdnpchldlaaGreatDoor
