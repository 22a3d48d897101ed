/- The law TopNames. -/
import Derived.Test.YtbmimdnpchldlaaGreatDoorKtTopN3
import Derived.Deep.RegionLaw
import Derived.Deep.DeepCutAuto
namespace Go.Proofs.YtbmimdnpchldlaaGreatDoor
open Go.RowKit

set_option maxRecDepth 100000 in
set_option maxHeartbeats 16000000 in
theorem topNames_law (cs : Array Value) (v1 : Value) (v2 : Value) (W : World) (ht : Tab W) (h0 : Cells Tryz.prog W 25 cs.toList) (h1 : Cells Tryz.prog W 26 [v1]) (h2 : Cells Tryz.prog W 3 [v2]) :
    Calls Tryz.prog 13 #[.agg cs, v1, v2] W fun e w' => e = .returned (.bool true) ∧ Ext W w' := by
  obtain ⟨d, pv, rfl, hpl, hd⟩ := design_of h0
  obtain ⟨raw, hr, hR⟩ := raw_for h1
  obtain ⟨n2, e2, i2⟩ := h2.i64 Tryz.underlying3
  cases e2
  have EE := ext_al (Ext.refl W) (Obj.cells (dnc d pv) 25)
  have HB := blk_new W (Obj.cells (dnc d pv) 25)
  have HTA := Lib.hid (task_any pv v1 d raw 3 _ (hpl.ext EE) hd (ops_ext hr EE) hR (by omega))
  have HK := Lib.hid (task_ok d raw 3 (by omega))
  have HF := fm_for raw 3
  have HY := Lib.hid fun (fv : Value) (wx : World) (hx : Ext (W.alloc (Obj.cells (dnc d pv) 25)) wx) (hf : IsT wx fv (.n0 11 0)) => tholds_b pv fv d (.n0 11 0) wx ((ht.ext EE).ext hx) ((hpl.ext EE).ext hx) hd hf fm_yes (by omega) (by omega) true (holdsB_yes _ _ _)
  obtain ⟨C, hC, hCN⟩ := fm_room d HF (by omega)
  have HTB := Lib.hid (ht.ext EE)
  have hm5 := d.drawn.five
  have hm2 := d.drawn.two
  obtain ⟨ar0, cr0, rfl, _⟩ := id hr
  generalize forO raw 3 3 = t at *
  simp only [dnc] at HTA HY HTB EE HB ⊢
  obtain ⟨va, vb, hvars, hna, hnb⟩ : ∃ va vb, d.md.vars = [va, vb] ∧ va.name = nmX ∧ vb.name = nmY := ⟨_, _, rfl, rfl, rfl⟩
  have h16 := d.drawn.n16
  have hcnt := HF.cnt
  generalize d.md = m at *
  generalize raw.length = nraw at *
  have HVE := Lib.hid fun vv rv qv fv wx (hT : IsTask wx vv rv qv fv m propT t) (hb : Tab wx) => verdict_any vv rv qv fv m propT t wx hT hb HK.out C hC hCN
  have HM2 := Lib.hid hm2
  have HVS := Lib.hid hvars
  have HNA := Lib.hid hna
  have HNB := Lib.hid hnb
  have hkb := pk_bd n2 5 (by omega)
  have HPK := Lib.hid fun wx => kpicked_any n2 5 wx i2.1 i2.2 (by omega) (by omega)
  obtain ⟨k, hk⟩ : ∃ k, pk n2 5 = k := ⟨_, rfl⟩
  rw [hk] at hkb HPK
  clear hk
  have HKB := Lib.hid hkb
  have hc80 := namesM_count HK.out.ok hvars hkb.1 (by omega) h16
  have HV2 := Lib.hid fun vv rv qv fv wx (hT : IsTask wx vv rv qv fv (namesM m va vb k) propT t) (hb : Tab wx) => verdict_any vv rv qv fv (namesM m va vb k) propT t wx hT hb (namesM_task HK.out.ok hvars hkb.1 (by omega) h16 HK.out) (countL (namesM m va vb k).vars).toNat (by omega) (by
    have h1 : (countL (namesM m va vb k).vars).toNat ≤ 80 := by omega
    have h3 := Nat.pow_le_pow_right (n := 2) (by omega) hcnt
    exact Nat.le_trans (Nat.mul_le_mul h1 h3) (by decide))
  have HRR := Lib.hid fun (b1 b2 : Bool) (h1 : b1 = true ↔ HoldsR m propT t) (h2 : b2 = true ↔ HoldsR (namesM m va vb k) propT t) => (show (b1 == b2) = true from by
    have e := namesM_holds HK.out.ok hvars hkb.1 (by omega) HK.out
    rw [beq_iff_eq, ← holdsB_eq h1.symm, ← holdsB_eq h2.symm, e])
  clear i2 hvars hna hnb hkb hc80 h16 hcnt
  have cur := d7_of HB
  have HEE := Lib.hid EE
  clear ht hpl hd HB h0 h1 hr hR HF hC hCN EE hm5 hm2 h2
  go_enter Tryz.func13, Tryz.ntmps13
  go_wp2_with fail
  obtain ⟨dB, hdB⟩ : ∃ x, W.heap.size = x := ⟨_, rfl⟩
  rw [hdB] at cur ⊢
  clear hdB
  generalize W.alloc (Obj.cells #[.int .i64 d.s0, .int .i64 d.s1, .int .i64 d.l0, .int .i64 d.l1, .int .i64 d.i0, .int .i64 d.i1, pv] 25) = W0 at *
  refine HTA.out.mono ?_
  rintro e w1 ⟨vv, rv, qv, fv, rfl, hT1, hE1⟩
  obtain ⟨av, cv, ar, cr, ap, cp, af, nf, cf, rfl, rfl, rfl, rfl⟩ := hT1.val
  have HT1 := Lib.hid hT1
  have HE1 := Lib.hid hE1
  generalize m.vars.length = nv at *
  generalize m.rules.length = nr at *
  generalize propT.length = np at *
  have hx1 := ext_al (Ext.refl w1) (Obj.cells #[.slice av nv cv, .slice ar nr cr, .slice ap np cp, .slice af nf cf] 35)
  have HX1 := Lib.hid hx1
  have HBT1 := Lib.hid (blk_new w1 (Obj.cells #[.slice av nv cv, .slice ar nr cr, .slice ap np cp, .slice af nf cf] 35))
  have q0 := blk_cell HBT1.out (i := 0) rfl
  have q1 := blk_cell HBT1.out (i := 1) rfl
  have q2 := blk_cell HBT1.out (i := 2) rfl
  have q3 := blk_cell HBT1.out (i := 3) rfl
  clear hT1 hE1 hx1 HTA
  go_wp2_with fail
  obtain ⟨tB, htB⟩ : ∃ x, w1.heap.size = x := ⟨_, rfl⟩
  rw [htB] at HBT1 q0 q1 q2 q3 ⊢
  clear htB
  generalize w1.alloc (Obj.cells #[.slice av nv cv, .slice ar nr cr, .slice ap np cp, .slice af nf cf] 35) = W1 at *
  refine (HVE.out _ _ _ _ _ (HT1.out.ext HX1.out) (HTB.out.ext (HE1.out.trans HX1.out))).mono ?_
  unfold VerR
  rintro e w2 ⟨b1, a5, n5, c5, a6, n6, c6, rfl, hb5, hE2⟩
  clear q0 q1 q2 q3
  have hx2 := ext_al (Ext.refl w2) (Obj.cells #[.bool b1, .slice a5 n5 c5, .slice a6 n6 c6] 81)
  have HBB := Lib.hid hb5
  have HBT2 := Lib.hid (blk_ext HBT1.out (hE2.trans hx2))
  have HBV2 := Lib.hid (blk_new w2 (Obj.cells #[.bool b1, .slice a5 n5 c5, .slice a6 n6 c6] 81))
  have HE2 := Lib.hid (HE1.out.trans (HX1.out.trans (hE2.trans hx2)))
  have HE12 := Lib.hid (HX1.out.trans (hE2.trans hx2))
  have q0 := blk_cell HBT2.out (i := 0) rfl
  have q1 := blk_cell HBT2.out (i := 1) rfl
  have q2 := blk_cell HBT2.out (i := 2) rfl
  have q3 := blk_cell HBT2.out (i := 3) rfl
  clear hb5 hE2 hx2 HVE HX1 HBT1
  go_upto_region 3 with fail
  obtain ⟨vB, hvB⟩ : ∃ x, w2.heap.size = x := ⟨_, rfl⟩
  rw [hvB] at HBV2 ⊢
  clear hvB
  generalize w2.alloc (Obj.cells #[.bool b1, .slice a5 n5 c5, .slice a6 n6 c6] 81) = W2 at *
  go_upto_region 4 with fail
  have hx3 := ext_al (Ext.refl W2) (Obj.cells #[.slice av nv cv, .slice ar nr cr, .slice ap np cp, .slice af nf cf] 35)
  have HX3 := Lib.hid hx3
  have HBU := Lib.hid (blk_new W2 (Obj.cells #[.slice av nv cv, .slice ar nr cr, .slice ap np cp, .slice af nf cf] 35))
  have HBT := Lib.hid (blk_ext HBT2.out hx3)
  clear q0 q1 q2 q3 hx3
  obtain ⟨uB, huB⟩ : ∃ x, W2.heap.size = x := ⟨_, rfl⟩
  have HUB := Lib.hid huB
  rw [huB] at HBU ⊢
  clear huB
  have hz3 : (W2.alloc (Obj.cells #[.slice av nv cv, .slice ar nr cr, .slice ap np cp, .slice af nf cf] 35)).heap.size = uB + 1 := by rw [World.size_alloc, HUB.out]
  generalize W2.alloc (Obj.cells #[.slice av nv cv, .slice ar nr cr, .slice ap np cp, .slice af nf cf] 35) = W3 at *
  have HZ3 := Lib.hid hz3
  clear hz3
  have hnv := HM2.out
  subst hnv
  have HVR := Lib.hid (vars_two (w := w1) (a := av) (c := cv) (x := va) (y := vb) (by have := HT1.out.md.vars; rw [HVS.out] at this; exact this))
  have HVR3 := Lib.hid (HVR.out.ext (HE12.out.trans HX3.out))
  have hc2 := HVR.out.le
  have hcm := HVR.out.max
  have HV1 := Lib.hid (show ∀ u ∈ vrc va ++ vrc vb, u.oneCell' = true from by intro u hu; simp only [vrc, List.cons_append, List.nil_append, List.mem_cons, List.not_mem_nil, or_false] at hu; rcases hu with rfl | rfl | rfl | rfl | rfl | rfl | rfl | rfl <;> rfl)
  have t0 := blk_cell HBT.out (i := 0) rfl
  have u0 := blk_cell HBU.out (i := 0) rfl
  unfold maxLen at hcm
  go_wp2_with (at_builtin; go_must (refine wpl_append rfl rfl Tryz.slVars (uB + 1) rfl (World.ownsRow_nil _ _ _ _) rfl HVR3.out HV1.out (by unfold maxLen; omega) (by omega) (by rw [HZ3.out]; exact Nat.le_refl _) ?_))
  intro v4 w4 hown4 hg4 hb4 _
  try simp only [Nat.zero_add, List.nil_append] at hown4
  have hE4 : Ext W3 w4 := Below.grown (Ext.refl W3) hg4 (Nat.le_refl _) (by simp [Value.ownBlock])
  obtain ⟨H, c4, rfl⟩ := own_shapeN hown4 (by omega)
  have hHu := (hown4.lt H rfl).1
  have hc4 : 2 ≤ c4 ∧ c4 ≤ 9223372036854775807 := by obtain ⟨_, _, e, h⟩ := hown4.row; simp only [Value.slice.injEq] at e; obtain ⟨-, -, rfl⟩ := e; have h1 := h.le; have h2 := h.max; unfold maxLen at h2; omega
  have hbu4 := blk_ext HBU.out hE4
  have u1 := blk_cell hbu4 (i := 0) rfl
  have f1 := blk_free hbu4 0
  have hbu5 := blk_set (i := 0) hbu4 (.slice (some ⟨H, 0, none⟩) 2 c4)
  rw [(set4 _ _ _ _ _).1] at hbu5
  have HBU5 := Lib.hid hbu5
  have HO5 := Lib.hid (own_setCell hown4 (p := ⟨uB, 0, none⟩) (.slice (some ⟨H, 0, none⟩) 2 c4) (fun e => by have h : uB + 1 ≤ uB := (hown4.lt _ e).1; omega))
  have HE5 := Lib.hid (ext_st (HX3.out.trans hE4) (p := ⟨uB, 0, none⟩) (by show W2.heap.size ≤ uB; rw [HUB.out]; exact Nat.le_refl _) (.slice (some ⟨H, 0, none⟩) 2 c4))
  clear hown4 hg4 hb4 hE4 hbu4 hbu5 t0 u0 HVR3 HVR HV1
  go_upto_region 5 with fail
  generalize w4.setCell ⟨uB, 0, none⟩ (.slice (some ⟨H, 0, none⟩) 2 c4) = W4 at *
  clear u1 f1
  rw [show vrc va ++ vrc vb = nmV va vb 0 from nmV_zero HNA.out HNB.out] at HO5
  go_wp2_with fail
  go_loopg [11] 2 (fun g x wr => ∃ i : Nat, g + i = 2 ∧ x = .int .i64 (i : Int) ∧ Ext W2 wr ∧ wr.heap[uB]? = some (.cells #[.slice (some ⟨H, 0, none⟩) 2 c4, .slice ar nr cr, .slice ap np cp, .slice af nf cf] 35 (0, 0)) ∧ wr.ownsRow (uB + 1) 89 4 (.slice (some ⟨H, 0, none⟩) 2 c4) 2 (nmV va vb i))
  case atStart => exact ⟨0, by omega, by go_num, HE5.out, HBU5.out, HO5.out⟩
  case round =>
    obtain ⟨i, hgi, rfl, hE, hXb, hO⟩ := hrel
    have HGI := Lib.hid hgi
    have HXE := Lib.hid hE
    have HXB := Lib.hid hXb
    have HO := Lib.hid hO
    have x0 := blk_cell hXb (i := 0) rfl
    have hi3 : i = 0 ∨ i = 1 ∨ i = 2 := by omega
    clear hgi hE hXb hO HBU5 HO5 HE5
    have hub := HUB.out
    rcases hi3 with rfl | rfl | rfl
    · have cN := own_cellN HO.out (i := 0) (x := .string nmX) rfl
      have HST := Lib.hid (own_setN (own_ext HO.out (Below.drew (Ext.refl wr))) (i := 0) (.string qX))
      have fN : wr.drew.frozen? ⟨H, 0, none⟩ = false := own_freeN HO.out 0
      have cN' : wr.drew.cell? ⟨H, 0, none⟩ = some (.string nmX) := cN
      have x0' : wr.drew.cell? ⟨uB, 0, none⟩ = some (.slice (some ⟨H, 0, none⟩) 2 c4) := x0
      have hXb' := blk_far (blk_ext HXB.out (Below.drew (Ext.refl wr))) (p := ⟨H, 0, none⟩) (by show H ≠ uB; omega) (.string qX)
      have HXB' := Lib.hid hXb'
      have HEE' := Lib.hid (ext_st (Ext.trans HXE.out (Below.drew (Ext.refl wr))) (p := ⟨H, 0, none⟩) (by show W2.heap.size ≤ H; omega) (.string qX))
      clear hXb'
      go_upto_region 8 with fail
      refine region_tail 14 (by kernel_rfl) (by kernel_rfl) (Shut.out ?_)
      clear x0 cN
      generalize wr.drew = Wd at *
      simp only [List.take_succ_cons, List.take_zero, List.drop_succ_cons, List.drop_zero]
      iterate 14 (refine hs_step3 (fun K hK => ?_); go_simp; refine hK _ ?_; clear hK K)
      refine hs_nil3 ?_
      go_wp2_with fail
      go_roundg (gk - 1)
      case measure => have := HGI.out; omega
      case rel => exact ⟨1, by have := HGI.out; omega, by go_num, HEE'.out, HXB'.out, HST.out⟩
    · have cN := own_cellN HO.out (i := 4) (x := .string nmY) rfl
      have HST := Lib.hid (own_setN (own_ext HO.out (Below.drew (Ext.refl wr))) (i := 4) (.string qY))
      have fN : wr.drew.frozen? ⟨H, 4, none⟩ = false := own_freeN HO.out 4
      have cN' : wr.drew.cell? ⟨H, 4, none⟩ = some (.string nmY) := cN
      have x0' : wr.drew.cell? ⟨uB, 0, none⟩ = some (.slice (some ⟨H, 0, none⟩) 2 c4) := x0
      have hXb' := blk_far (blk_ext HXB.out (Below.drew (Ext.refl wr))) (p := ⟨H, 4, none⟩) (by show H ≠ uB; omega) (.string qY)
      have HXB' := Lib.hid hXb'
      have HEE' := Lib.hid (ext_st (Ext.trans HXE.out (Below.drew (Ext.refl wr))) (p := ⟨H, 4, none⟩) (by show W2.heap.size ≤ H; omega) (.string qY))
      clear hXb'
      go_upto_region 8 with fail
      refine region_tail 14 (by kernel_rfl) (by kernel_rfl) (Shut.out ?_)
      clear x0 cN
      generalize wr.drew = Wd at *
      simp only [List.take_succ_cons, List.take_zero, List.drop_succ_cons, List.drop_zero]
      iterate 14 (refine hs_step3 (fun K hK => ?_); go_simp; refine hK _ ?_; clear hK K)
      refine hs_nil3 ?_
      go_wp2_with fail
      go_roundg (gk - 1)
      case measure => have := HGI.out; omega
      case rel => exact ⟨2, by have := HGI.out; omega, by go_num, HEE'.out, HXB'.out, HST.out⟩
    · have HX6 := Lib.hid fun (o : Obj) => blk_ext HXB.out (Below.drew (ext_al (Ext.refl wr) o))
      have HO6 := Lib.hid fun (o : Obj) => own_ext HO.out (Below.drew (ext_al (Ext.refl wr) o))
      have HE6 := Lib.hid fun (o : Obj) => Ext.trans HXE.out (Below.drew (ext_al (Ext.refl wr) o))
      have x0a : (wr.alloc (Obj.cells #[.string nmI, .int .i64 0, .int .i64 k, .int .i64 0] 89)).cell? ⟨uB, 0, none⟩ = some (.slice (some ⟨H, 0, none⟩) 2 c4) := blk_cell (blk_ext HXB.out (ext_al (Ext.refl wr) _)) rfl
      go_upto_region 9 with fail
      go_cut [] (fun wx => ∃ a6 c6, Ext W2 wx ∧ wx.heap[uB]? = some (.cells #[.slice a6 3 c6, .slice ar nr cr, .slice ap np cp, .slice af nf cf] 35 (0, 0)) ∧ wx.ownsRow (uB + 1) 89 4 (.slice a6 3 c6) 3 (nmV va vb 2 ++ [.string nmI, .int .i64 0, .int .i64 k, .int .i64 0]))
      case first =>
        go_region_law (first
          | (refine step_append rfl rfl Tryz.slVars (uB + 1) (by rfl) (HO6.out _) (by rfl) ((Row.newK _ _ 4 _ _ rfl rfl).ext (Below.drew (Ext.refl _))) (by intro u hu; simp only [List.mem_cons, List.not_mem_nil, or_false] at hu; rcases hu with rfl | rfl | rfl | rfl <;> rfl) (by unfold maxLen; omega) (by omega) (by have := HXE.out.size; simp; omega) ?_
             intro v6 w6 hown6 hg6 hb6 _
             obtain ⟨a6, c6, rfl, _⟩ := hown6.row
             have hx6 := blk_grown (HX6.out _) hg6 (fun e => by have h : uB + 1 ≤ uB := ((HO6.out (Obj.cells #[] 0)).lt _ e.symm).1; omega)
             have x16 := blk_cell hx6 (i := 0) rfl
             have fx16 := blk_free hx6 0
             have HXX6 := Lib.hid hx6
             have HEE6 := Lib.hid (show Ext W2 w6 from Below.grown (HE6.out _) hg6 (HE6.out _).size (fun b hb => by have := ((HO6.out (Obj.cells #[] 0)).lt b hb).1; omega))
             have HOO6 := Lib.hid hown6
             clear hx6 hown6 hg6 hb6)
          | (go_simp
             go_at_call 31
             refine (HPK.out _).mono ?_
             rintro e wq ⟨rfl, rfl⟩))
        all_goals
          have hxx7 := blk_set HXX6.out (i := 0) (.slice a6 3 c6)
          rw [(set4 _ _ _ _ _).1] at hxx7
          go_wp2_with fail
          go_meet
          exact ⟨a6, c6, ext_st HEE6.out (p := ⟨uB, 0, none⟩) (by show W2.heap.size ≤ uB; omega) _, hxx7, own_setCell HOO6.out (p := ⟨uB, 0, none⟩) _ (fun e => by have h : uB + 1 ≤ uB := (HOO6.out.lt _ e).1; omega)⟩
      case rest =>
        obtain ⟨a6, c6, hE, hXb, hO⟩ := hcut
        have HTU := Lib.hid (show IsTask wc (.slice a6 3 c6) (.slice ar nr cr) (.slice ap np cp) (.slice af nf cf) (namesM m va vb k) propT t from
          ⟨⟨vars_three hO.reads m, HT1.out.md.rules.ext (HE12.out.trans hE)⟩, HT1.out.pr.ext (HE12.out.trans hE), HT1.out.fo.ext (HE12.out.trans hE)⟩)
        have HE7 := Lib.hid (HE2.out.trans hE)
        have HBV7 := Lib.hid (blk_ext HBV2.out hE)
        have u0 := blk_cell hXb (i := 0) rfl
        have u1 := blk_cell hXb (i := 1) rfl
        have u2 := blk_cell hXb (i := 2) rfl
        have u3 := blk_cell hXb (i := 3) rfl
        clear hE hXb hO x0a x0 HPK HX6 HO6 HE6 HO HXB HXE
        go_wp2_with fail
        refine (HV2.out _ _ _ _ _ HTU.out (HTB.out.ext HE7.out)).mono ?_
        unfold VerR
        rintro e w8 ⟨b2, a7, n7, c7, a8, n8, c8, rfl, hb8, hE8⟩
        have hx8 := ext_al (Ext.refl w8) (Obj.cells #[.bool b2, .slice a7 n7 c7, .slice a8 n8 c8] 81)
        have HBW := Lib.hid (blk_new w8 (Obj.cells #[.bool b2, .slice a7 n7 c7, .slice a8 n8 c8] 81))
        have HBB2 := Lib.hid hb8
        have HE8 := Lib.hid (HE7.out.trans (hE8.trans hx8))
        have HBV8 := Lib.hid (blk_ext HBV7.out (hE8.trans hx8))
        have cur8 := d7_later HE8.out cur
        obtain ⟨q0, q1, q2, q3, q4, q5, q6⟩ := id cur8
        clear hb8 hE8 hx8 u0 u1 u2 u3
        go_upto_region 11 with fail
        obtain ⟨xB, hxB⟩ : ∃ x, w8.heap.size = x := ⟨_, rfl⟩
        rw [hxB] at HBW ⊢
        clear hxB
        generalize w8.alloc (Obj.cells #[.bool b2, .slice a7 n7 c7, .slice a8 n8 c8] 81) = W8 at *
        have hx9 := ext_al (Ext.refl W8) (Obj.cells #[.int .i64 11, .int .i64 0] 75)
        go_wp2_with fail
        refine (HY.out _ _ (HE8.out.trans hx9) (isT_lit W8 75 11 0 _ rfl)).mono ?_
        rintro e wA ⟨rfl, hEA⟩
        clear q0 q1 q2 q3 q4 q5 q6 cur cur8
        have g0 := blk_cell (blk_ext HBV8.out (hx9.trans hEA)) (i := 0) rfl
        have g1 := blk_cell (blk_ext HBW.out (hx9.trans hEA)) (i := 0) rfl
        have HEF := Lib.hid (HEE.out.trans (HE8.out.trans (hx9.trans hEA)))
        have RR := Lib.hid (HRR.out b1 b2 HBB.out HBB2.out)
        clear hx9 hEA HBB HBB2
        cases b1
        all_goals cases b2
        all_goals (try (exact absurd RR.out (by decide)))
        all_goals
          go_wp2
          go_ret
          exact ⟨rfl, HEF.out⟩

end Go.Proofs.YtbmimdnpchldlaaGreatDoor
