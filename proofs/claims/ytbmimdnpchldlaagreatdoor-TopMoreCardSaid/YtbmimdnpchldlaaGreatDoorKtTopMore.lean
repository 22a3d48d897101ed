/- The law TopMore. -/
import Derived.Test.YtbmimdnpchldlaaGreatDoorKtTopM
import Derived.Deep.RegionLaw
import Derived.Deep.DeepCutAuto
namespace Go.Proofs.YtbmimdnpchldlaaGreatDoor
open Go.RowKit

set_option maxRecDepth 100000 in
set_option maxHeartbeats 16000000 in
theorem topMore_law (cs : Array Value) (v1 : Value) (W : World) (ht : Tab W) (h0 : Cells Tryz.prog W 25 cs.toList) (h1 : Cells Tryz.prog W 26 [v1]) :
    Calls Tryz.prog 14 #[.agg cs, v1] W fun e w' => e = .returned (.bool true) ∧ Ext W w' := by
  obtain ⟨d, pv, rfl, hpl, hd⟩ := design_of h0
  obtain ⟨raw, hr, hR⟩ := raw_for h1
  have EE := ext_al (Ext.refl W) (Obj.cells (dnc d pv) 25)
  have HB := blk_new W (Obj.cells (dnc d pv) 25)
  have HTA := Lib.hid (task_any pv v1 d raw 3 _ (hpl.ext EE) hd (ops_ext hr EE) hR (by omega))
  have HK := Lib.hid (task_ok d raw 3 (by omega))
  have HF := fm_for raw 3
  have HY := Lib.hid fun (fv : Value) (wx : World) (hx : Ext (W.alloc (Obj.cells (dnc d pv) 25)) wx) (hf : IsT wx fv (.n0 11 0)) => tholds_b pv fv d (.n0 11 0) wx ((ht.ext EE).ext hx) ((hpl.ext EE).ext hx) hd hf fm_yes (by omega) (by omega) true (holdsB_yes _ _ _)
  obtain ⟨C, hC, hCN⟩ := fm_room d HF (by omega)
  have HTB := Lib.hid (ht.ext EE)
  have hm5 := d.drawn.five
  have hm2 := d.drawn.two
  obtain ⟨ar0, cr0, rfl, _⟩ := id hr
  generalize forO raw 3 3 = t at *
  simp only [dnc] at HTA HY HTB EE HB ⊢

  generalize d.md = m at *
  generalize raw.length = nraw at *
  have HVE := Lib.hid fun vv rv qv fv wx (hT : IsTask wx vv rv qv fv m propT t) (hb : Tab wx) => verdict_any vv rv qv fv m propT t wx hT hb HK.out C hC hCN
  have HPM := Lib.hid (more_ok HK.out.ok (by omega))
  have HRR := Lib.hid fun (b1 b2 : Bool) (h1 : b1 = true ↔ HoldsR m propT t) (h2 : b2 = true ↔ HoldsR ⟨m.vars, m.rules ++ [stayR]⟩ propT t) => (show (b1 || !b2) = true from by
    cases b2
    · simp
    · have := holdsB_iff.1 (stay_more HK.out.ok.toPre (holdsB_iff.2 (h2.1 rfl)))
      rw [h1.2 this]; rfl)
  have HV2 := Lib.hid fun vv rv qv fv wx (hT : IsTask wx vv rv qv fv ⟨m.vars, m.rules ++ [stayR]⟩ propT t) (hb : Tab wx) => verdict_any vv rv qv fv ⟨m.vars, m.rules ++ [stayR]⟩ propT t wx hT hb ⟨HPM.out, HK.out.v0, HK.out.pk, HK.out.ff⟩ C hC hCN
  have HM5 := Lib.hid hm5
  have cur := d7_of HB
  have HEE := Lib.hid EE
  clear ht hpl hd HB h0 h1 hr hR HF hC hCN EE hm5 hm2
  go_enter Tryz.func14, Tryz.ntmps14
  go_wp2_with fail
  obtain ⟨dB, hdB⟩ : ∃ x, W.heap.size = x := ⟨_, rfl⟩
  rw [hdB] at cur ⊢
  clear hdB
  generalize W.alloc (Obj.cells #[.int .i64 d.s0, .int .i64 d.s1, .int .i64 d.l0, .int .i64 d.l1, .int .i64 d.i0, .int .i64 d.i1, pv] 25) = W0 at *
  refine HTA.out.mono ?_
  rintro e w1 ⟨vv, rv, qv, fv, rfl, hT1, hE1⟩
  obtain ⟨av, cv, ar, cr, ap, cp, af, nf, cf, rfl, rfl, rfl, rfl⟩ := hT1.val
  have HT1 := Lib.hid hT1
  have HE1 := Lib.hid hE1
  generalize m.vars.length = nv at *
  generalize hnr : m.rules.length = nr at *
  have HNR := Lib.hid hnr
  clear hnr
  generalize propT.length = np at *
  have hx1 := ext_al (Ext.refl w1) (Obj.cells #[.slice av nv cv, .slice ar nr cr, .slice ap np cp, .slice af nf cf] 35)
  have HX1 := Lib.hid hx1
  have HBT1 := Lib.hid (blk_new w1 (Obj.cells #[.slice av nv cv, .slice ar nr cr, .slice ap np cp, .slice af nf cf] 35))
  have q0 := blk_cell HBT1.out (i := 0) rfl
  have q1 := blk_cell HBT1.out (i := 1) rfl
  have q2 := blk_cell HBT1.out (i := 2) rfl
  have q3 := blk_cell HBT1.out (i := 3) rfl
  clear hT1 hE1 hx1 HTA
  go_wp2_with fail
  obtain ⟨tB, htB⟩ : ∃ x, w1.heap.size = x := ⟨_, rfl⟩
  rw [htB] at HBT1 q0 q1 q2 q3 ⊢
  clear htB
  generalize w1.alloc (Obj.cells #[.slice av nv cv, .slice ar nr cr, .slice ap np cp, .slice af nf cf] 35) = W1 at *
  refine (HVE.out _ _ _ _ _ (HT1.out.ext HX1.out) (HTB.out.ext (HE1.out.trans HX1.out))).mono ?_
  unfold VerR
  rintro e w2 ⟨b1, a5, n5, c5, a6, n6, c6, rfl, hb5, hE2⟩
  clear q0 q1 q2 q3
  have hx2 := ext_al (Ext.refl w2) (Obj.cells #[.bool b1, .slice a5 n5 c5, .slice a6 n6 c6] 81)
  have HBB := Lib.hid hb5
  have HBT2 := Lib.hid (blk_ext HBT1.out (hE2.trans hx2))
  have HBV2 := Lib.hid (blk_new w2 (Obj.cells #[.bool b1, .slice a5 n5 c5, .slice a6 n6 c6] 81))
  have HE2 := Lib.hid (HE1.out.trans (HX1.out.trans (hE2.trans hx2)))
  have HE12 := Lib.hid (HX1.out.trans (hE2.trans hx2))
  have q0 := blk_cell HBT2.out (i := 0) rfl
  have q1 := blk_cell HBT2.out (i := 1) rfl
  have q2 := blk_cell HBT2.out (i := 2) rfl
  have q3 := blk_cell HBT2.out (i := 3) rfl
  clear hb5 hE2 hx2 HVE HX1 HBT1
  go_upto_region 3 with fail
  obtain ⟨vB, hvB⟩ : ∃ x, w2.heap.size = x := ⟨_, rfl⟩
  rw [hvB] at HBV2 ⊢
  clear hvB
  generalize w2.alloc (Obj.cells #[.bool b1, .slice a5 n5 c5, .slice a6 n6 c6] 81) = W2 at *
  go_upto_region 4 with fail
  have hx3 := ext_al (Ext.refl W2) (Obj.cells #[.slice av nv cv, .slice ar nr cr, .slice ap np cp, .slice af nf cf] 35)
  have HX3 := Lib.hid hx3
  have HBU := Lib.hid (blk_new W2 (Obj.cells #[.slice av nv cv, .slice ar nr cr, .slice ap np cp, .slice af nf cf] 35))
  have HBT := Lib.hid (blk_ext HBT2.out hx3)
  clear q0 q1 q2 q3 hx3
  obtain ⟨uB, huB⟩ : ∃ x, W2.heap.size = x := ⟨_, rfl⟩
  have HUB := Lib.hid huB
  rw [huB] at HBU ⊢
  clear huB
  have hz3 : (W2.alloc (Obj.cells #[.slice av nv cv, .slice ar nr cr, .slice ap np cp, .slice af nf cf] 35)).heap.size = uB + 1 := by rw [World.size_alloc, HUB.out]
  generalize W2.alloc (Obj.cells #[.slice av nv cv, .slice ar nr cr, .slice ap np cp, .slice af nf cf] 35) = W3 at *
  have HZ3 := Lib.hid hz3
  clear hz3
  obtain ⟨css, hcl, hc2, hrd, hce⟩ := HT1.out.md.rules
  have HCL := Lib.hid hcl
  have HC2 := Lib.hid hc2
  have HCE := Lib.hid hce
  have HCO := Lib.hid (rule_ones hcl hce)
  rw [HNR.out] at hrd
  have HRD := Lib.hid (hrd.ext HE12.out)
  obtain ⟨_, _, e, hrow⟩ := HRD.out
  simp only [Value.slice.injEq, true_and] at e
  obtain ⟨rfl, rfl⟩ := e
  have HRW := Lib.hid (hrow.ext HX3.out)
  have hnc := hrow.le
  have hcm := hrow.max
  have t0 := blk_cell HBT.out (i := 1) rfl
  clear hcl hc2 hrd hce hrow
  unfold maxLen at hcm
  have hn5 := HM5.out
  go_wp2_with (at_builtin; go_must (refine wpl_append rfl rfl Tryz.slRules (uB + 1) rfl (World.ownsRow_nil _ _ _ _) rfl HRW.out HCO.out (by unfold maxLen; omega) (by omega) (by rw [HZ3.out]; exact Nat.le_refl _) ?_))
  intro v4 w4 hown4 hg4 hb4 _
  try simp only [Nat.zero_add, List.nil_append] at hown4
  have hE4 : Ext W3 w4 := Below.grown (Ext.refl W3) hg4 (Nat.le_refl _) (by simp [Value.ownBlock])
  obtain ⟨a4, c4, rfl, hr4⟩ := id hown4.row
  have hc4 := hr4.le
  have hm4 := hr4.max
  unfold maxLen at hm4
  have HO4 := Lib.hid hown4
  have HE4 := Lib.hid hE4
  clear hown4 hg4 hb4 hE4 hr4 t0 HRW HRD
  have hxa := ext_al (Ext.refl w4) (Obj.cells #[.int .i64 11, .int .i64 0] 75)
  have hba := blk_new w4 (Obj.cells #[.int .i64 11, .int .i64 0] 75)
  have hxb := ext_al (Ext.refl (w4.alloc (Obj.cells #[.int .i64 11, .int .i64 0] 75))) (Obj.cells #[.slice (some ⟨w4.heap.size, 0, none⟩) 1 1, .slice none 0 0] 86)
  have HXB := Lib.hid (hxa.trans hxb)
  have HBA := Lib.hid (blk_ext hba hxb)
  clear hxa hba hxb
  go_wp2_with (at_builtin; go_must (refine wpl_append rfl rfl Tryz.slRules (uB + 1) rfl (own_ext HO4.out HXB.out) rfl (Row.newK _ _ 2 _ _ rfl (by simp)) (by intro u hu; simp only [List.mem_cons, List.not_mem_nil, or_false] at hu; rcases hu with rfl | rfl <;> rfl) (by unfold maxLen; omega) (by omega) (by have h1 := HE4.out.size; have h2 := HZ3.out; simp; omega) ?_))
  intro v6 w6 hown6 hg6 hb6 _
  obtain ⟨a6, c6, rfl, _⟩ := id hown6.row
  have hs4 := HE4.out.size
  have hz3 := HZ3.out
  have hbu6 := blk_grown (blk_ext HBU.out (HE4.out.trans HXB.out)) hg6 (fun e => by have := (HO4.out.lt uB e.symm).1; omega)
  have hba6 := blk_grown HBA.out hg6 (fun e => by have := (HO4.out.lt _ e.symm).2; omega)
  have u1 := blk_cell hbu6 (i := 1) rfl
  have f1 := blk_free hbu6 1
  have hbu7 := blk_set (i := 1) hbu6 (.slice a6 (nr + 1) c6)
  rw [(set4 _ _ _ _ _).2.1] at hbu7
  have hba7 := blk_far hba6 (p := ⟨uB, 1, none⟩) (by show uB ≠ w4.heap.size; omega) (.slice a6 (nr + 1) c6)
  have hown7 := own_setCell hown6 (p := ⟨uB, 1, none⟩) (.slice a6 (nr + 1) c6) (fun e => by have h : uB + 1 ≤ uB := (hown6.lt _ e).1; omega)
  have hE27 : Ext W2 (w6.setCell ⟨uB, 1, none⟩ (.slice a6 (nr + 1) c6)) := ext_st (Below.grown (HX3.out.trans (HE4.out.trans HXB.out)) hg6 (HX3.out.trans (HE4.out.trans HXB.out)).size (fun b hb => by have h1 := (HO4.out.lt b hb).1; have h2 := HUB.out; omega)) (p := ⟨uB, 1, none⟩) (by show W2.heap.size ≤ uB; rw [HUB.out]; exact Nat.le_refl _) _
  have HTU := Lib.hid (show IsTask (w6.setCell ⟨uB, 1, none⟩ (.slice a6 (nr + 1) c6)) (.slice av nv cv) (.slice a6 (nr + 1) c6) (.slice ap np cp) (.slice af nf cf) ⟨m.vars, m.rules ++ [stayR]⟩ propT t from
    ⟨⟨HT1.out.md.vars.ext (HE12.out.trans hE27), rules_more HCL.out (by rw [HNR.out]) HC2.out rfl hown7.reads (fun i c x h1 h2 => (HCE.out i c x h1 h2).ext (HE12.out.trans hE27)) ⟨_, _, rfl, isT_blk hba7, EachL.nil _ _ _⟩⟩, HT1.out.pr.ext (HE12.out.trans hE27), HT1.out.fo.ext (HE12.out.trans hE27)⟩)
  have HE7 := Lib.hid (HE2.out.trans hE27)
  have HBV7 := Lib.hid (blk_ext HBV2.out hE27)
  have HBU7 := Lib.hid hbu7
  clear hown6 hg6 hb6 hs4 hz3 hbu6 hba6 hbu7 hba7 hown7 hE27 HO4 HE4 HXB HBA HCO
  go_upto_region 5 with fail
  generalize w6.setCell ⟨uB, 1, none⟩ (.slice a6 (nr + 1) c6) = w7 at *
  clear u1 f1
  have u0 := blk_cell HBU7.out (i := 0) rfl
  have u1 := blk_cell HBU7.out (i := 1) rfl
  have u2 := blk_cell HBU7.out (i := 2) rfl
  have u3 := blk_cell HBU7.out (i := 3) rfl
  go_wp2_with fail
  refine (HV2.out _ _ _ _ _ HTU.out (HTB.out.ext HE7.out)).mono ?_
  unfold VerR
  rintro e w8 ⟨b2, a7, n7, c7, a8, n8, c8, rfl, hb8, hE8⟩
  have hx8 := ext_al (Ext.refl w8) (Obj.cells #[.bool b2, .slice a7 n7 c7, .slice a8 n8 c8] 81)
  have HBW := Lib.hid (blk_new w8 (Obj.cells #[.bool b2, .slice a7 n7 c7, .slice a8 n8 c8] 81))
  have HBB2 := Lib.hid hb8
  have HE8 := Lib.hid (HE7.out.trans (hE8.trans hx8))
  have HBV8 := Lib.hid (blk_ext HBV7.out (hE8.trans hx8))
  have cur8 := d7_later HE8.out cur
  obtain ⟨q0, q1, q2, q3, q4, q5, q6⟩ := id cur8
  clear hb8 hE8 hx8 u0 u1 u2 u3
  go_upto_region 6 with fail
  obtain ⟨xB, hxB⟩ : ∃ x, w8.heap.size = x := ⟨_, rfl⟩
  rw [hxB] at HBW ⊢
  clear hxB
  generalize w8.alloc (Obj.cells #[.bool b2, .slice a7 n7 c7, .slice a8 n8 c8] 81) = W8 at *
  have hx9 := ext_al (Ext.refl W8) (Obj.cells #[.int .i64 11, .int .i64 0] 75)
  go_wp2_with fail
  refine (HY.out _ _ (HE8.out.trans hx9) (isT_lit W8 75 11 0 _ rfl)).mono ?_
  rintro e wA ⟨rfl, hEA⟩
  clear q0 q1 q2 q3 q4 q5 q6 cur cur8
  have g0 := blk_cell (blk_ext HBV8.out (hx9.trans hEA)) (i := 0) rfl
  have g1 := blk_cell (blk_ext HBW.out (hx9.trans hEA)) (i := 0) rfl
  have HEF := Lib.hid (HEE.out.trans (HE8.out.trans (hx9.trans hEA)))
  have RR := Lib.hid (HRR.out b1 b2 HBB.out HBB2.out)
  clear hx9 hEA HBB HBB2
  cases b1
  all_goals cases b2
  all_goals (try (exact absurd RR.out (by decide)))
  all_goals
    go_wp2
    go_ret
    exact ⟨rfl, HEF.out⟩

end Go.Proofs.YtbmimdnpchldlaaGreatDoor
