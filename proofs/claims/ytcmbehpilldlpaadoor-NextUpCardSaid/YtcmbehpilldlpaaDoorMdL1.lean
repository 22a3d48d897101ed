/- The law NextUp. -/
import Derived.Test.YtcmbehpilldlpaaDoorMdV
import Derived.Deep.DeepCutAuto
import Derived.Deep.RegionLaw
namespace Go.Proofs.YtcmbehpilldlpaaDoor
open Go.RowKit

set_option maxRecDepth 100000 in
set_option maxHeartbeats 16000000 in
theorem nextUp_walk (pv : Value) (d : Dn) (c : Int) (W : World) (ht : Tab W) (hpl : IsPlans W pv d.rules) (hd : DnI d) (hc : I64 c) :
    Calls Tryd.prog 9 #[.agg (dnc d pv), .int .i64 c] W fun e w' => e = .returned (.bool true) ∧ Ext W w' := by
  have EE := ext_al (Ext.refl W) (Obj.cells (dnc d pv) 25)
  have HMO := Lib.hid (model_any pv d _ (hpl.ext EE) hd)
  have D := d.drawn
  have HEE := Lib.hid EE
  have HTB := Lib.hid (ht.ext EE)
  obtain ⟨c1, c2⟩ := hc
  generalize d.md = m at *
  simp only [dnc] at HMO HEE HTB ⊢
  clear ht hpl hd EE
  go_enter Tryd.func9, Tryd.ntmps9
  go_wp2_with fail
  generalize W.alloc (Obj.cells #[.int .i64 d.s0, .int .i64 d.s1, .int .i64 d.l0, .int .i64 d.l1, .int .i64 d.i0, .int .i64 d.i1, pv] 25) = W0 at *
  refine HMO.out.mono ?_
  rintro e w1 ⟨vv, rv, rfl, hM, hE1⟩
  obtain ⟨av, cv, ar, cr, rfl, rfl⟩ := hM.shape D.two
  have hx := ext_al (Ext.refl w1) (Obj.cells #[.slice av 2 cv, .slice ar m.rules.length cr] 29)
  have hb := blk_new w1 (Obj.cells #[.slice av 2 cv, .slice ar m.rules.length cr] 29)
  have HM := Lib.hid (hM.ext hx)
  have HX := Lib.hid (HEE.out.trans (hE1.trans hx))
  have HT := Lib.hid (HTB.out.ext (hE1.trans hx))
  have HB := Lib.hid hb
  have m0 := blk_cell hb (i := 0) rfl
  have m1 := blk_cell hb (i := 1) rfl
  clear hM hE1 hx hb HMO HEE HTB
  have hn1 := D.n1
  have hn16 := D.n16
  have h5 := D.five
  have HD := Lib.hid D
  clear D
  go_wp2_with fail
  generalize w1.alloc (Obj.cells #[.slice av 2 cv, .slice ar m.rules.length cr] 29) = W2 at *
  refine (count_any _ _ m W2 HM.out HT.out HD.out.ok).mono ?_
  rintro e w3 ⟨rfl, hE3⟩
  have HE3 := Lib.hid hE3
  have m0 := cell_later hE3 m0
  have m1 := cell_later hE3 m1
  clear hE3
  obtain ⟨N, hN⟩ : ∃ N, countL m.vars = N := ⟨_, rfl⟩
  rw [hN] at hn1 hn16 ⊢
  have HN := Lib.hid hN
  clear hN
  go_wp2_with fail
  have HPK := Lib.hid fun wx => picked_any c N wx c1 c2 (by omega) (by omega)
  have hb := pk_bd c N (by omega)
  generalize pk c N = k at *
  have HNX := Lib.hid fun wx (hx : Ext W2 wx) => nextE_any _ _ m k wx (HM.out.ext hx) (HT.out.ext hx) HD.out.ok (by rw [HD.out.two]; omega) hb.1 (by rw [HN.out]; exact hb.2)
  have HNI := Lib.hid fun x (hx : x ∈ nextL m k) => (show 0 ≤ x ∧ x < N from by
    have := NextP.in HD.out.ok.toPre hb.1 (by rw [HN.out]; exact hb.2) (((nextL_ok m k).mem x).1 hx)
    rw [HN.out] at this
    exact this)
  have HNU := Lib.hid (nextL_ok m k).up
  obtain ⟨hl1, hl2⟩ := nextL_len m k
  generalize nextL m k = L at *
  have hmx : max m.rules.length 1 ≤ 5 := by omega
  go_cut [8, 9] (fun s8 s9 wx => s9 = .int .i64 0 ∧ ∃ a c', s8 = .slice a L.length c' ∧ Row wx 1 a L.length c' (L.map (.int .i64)) ∧ Ext W2 wx)
  case first =>
    go_region_law (first
      | (go_simp
         go_at_call 15
         refine (HPK.out _).mono ?_
         rintro e wq ⟨rfl, rfl⟩)
      | (go_simp
         go_at_call 24
         refine (HNX.out _ (Below.drew HE3.out)).mono ?_
         rintro e w4 ⟨v4, rfl, ho4, hE4⟩
         obtain ⟨a4, c4, rfl, hr4⟩ := ho4.row
         have HR4 := Lib.hid hr4
         have HE4 := Lib.hid (Ext.trans (Below.drew HE3.out) hE4)
         clear ho4 hr4 hE4))
    all_goals
      go_wp2_with fail
      go_meet
      exact ⟨rfl, _, _, rfl, HR4.out, HE4.out⟩
  case rest =>
    obtain ⟨rfl, aL, cL, rfl, hr, hE⟩ := hcut
    have HE4 := Lib.hid hE
    have HR4 := Lib.hid hr
    obtain ⟨bL, oL, q1, q2⟩ := ints_at' hr
    have HQ2 := Lib.hid q2
    have haL := q1 hl1
    subst haL
    have m1 := blk_cell (blk_ext HB.out hE) (i := 1) rfl
    have HM1 := Lib.hid m1
    clear hr hE q1 q2 m0 m1 HPK HNX
    go_wp2_with fail
    go_loopg [10] L.length (fun kk x wr => ∃ i : Nat, kk + i = L.length ∧ x = .int .i64 (i : Int) ∧ Ext wc wr)
    case atStart => exact ⟨0, by omega, by go_num, Ext.refl _⟩
    case round =>
      obtain ⟨i, hki, rfl, hE⟩ := hrel
      have HKI := Lib.hid hki
      have HX3 := Lib.hid hE
      by_cases hi : i < L.length
      · have cx := cell_later hE (HQ2.out i hi)
        have hxb := HNI.out L[i] (by simp)
        have HUP := Lib.hid fun j (hj : j < i) => List.pairwise_iff_getElem.1 HNU.out j i (by omega) hi hj
        have hiI : (i : Int) < (L.length : Int) := by omega
        have hi0 : (0 : Int) ≤ (i : Int) := by omega
        have r1 : decide (L[i] < 0) = false := by rw [decide_eq_false_iff_not]; omega
        have r2 : decide (N ≤ L[i]) = false := by rw [decide_eq_false_iff_not]; omega
        by_cases hi00 : i = 0
        · have r3 : decide ((0 : Int) < (i : Int)) = false := by rw [decide_eq_false_iff_not]; omega
          have r3' : decide (0 < i) = false := by rw [decide_eq_false_iff_not]; omega
          clear hki hE hxb HUP hi00
          generalize L[i] = x at *
          go_upto_region 9 with fail
          refine wp_region_quiet_lit (by kernel_rfl) (by kernel_rfl) (Shut.out ?_)
          repeat (refine hq_step (fun K hK => ?_); go_simp; refine hK _ ?_; clear hK K)
          refine hq_nil ?_
          rintro _ ⟨nq, rfl⟩
          clear r1 r2 r3 r3' cx
          go_wp2_with fail
          go_roundg (gk - 1)
          case measure => have := HKI.out; omega
          case rel => exact ⟨i + 1, by have := HKI.out; omega, by go_num, below_drewN HX3.out _⟩
        · obtain ⟨j, hj⟩ : ∃ j, i = j + 1 := ⟨i - 1, by omega⟩
          have hy := HUP.out j (by omega)
          have hjl : j < L.length := by omega
          have cy := cell_later hE (HQ2.out j hjl)
          have r3 : decide ((0 : Int) < (i : Int)) = true := by rw [decide_eq_true_eq]; omega
          have r3' : decide (0 < i) = true := by rw [decide_eq_true_eq]; omega
          have r4 : decide (L[i] ≤ L[j]) = false := by rw [decide_eq_false_iff_not]; omega
          have t1 : IntKind.i64.wrap ((i : Int) - 1) = (j : Int) := (IntWalk.i64_in _ (by omega)).trans (by omega)
          have hjI : (j : Int) < (L.length : Int) := by omega
          have hj0 : (0 : Int) ≤ (j : Int) := by omega
          clear hki hE hxb HUP hy hi00 hj
          generalize L[i] = x at *
          generalize L[j] = y at *
          go_upto_region 9 with fail
          refine wp_region_quiet_lit (by kernel_rfl) (by kernel_rfl) (Shut.out ?_)
          repeat (refine hq_step (fun K hK => ?_); go_simp; refine hK _ ?_; clear hK K)
          refine hq_nil ?_
          rintro _ ⟨nq, rfl⟩
          clear r1 r2 r3 r3' r4 t1 cx cy
          go_wp2_with fail
          go_roundg (gk - 1)
          case measure => have := HKI.out; omega
          case rel => exact ⟨i + 1, by have := HKI.out; omega, by go_num, below_drewN HX3.out _⟩
      · have hiI : ¬ (i : Int) < (L.length : Int) := by omega
        have m1 := cell_later hE HM1.out
        have HX4 := Lib.hid (HX.out.trans (HE4.out.trans hE))
        have hL0 : (0 : Int) < (L.length : Int) := by omega
        have hLm : (L.length : Int) ≤ max (m.rules.length : Int) 1 := by omega
        clear hki hE
        go_wp2
        go_ret
        exact ⟨rfl, HX4.out⟩

theorem nextUp_law (cs : Array Value) (v1 : Value) (W : World) (ht : Tab W) (h0 : Cells Tryd.prog W 25 cs.toList) (h1 : Cells Tryd.prog W 3 [v1]) :
    Calls Tryd.prog 9 #[.agg cs, v1] W fun e w' => e = .returned (.bool true) ∧ Ext W w' := by
  obtain ⟨d, pv, rfl, hpl, hd⟩ := design_of h0
  obtain ⟨n1, e1, i1⟩ := h1.i64 Tryd.underlying3
  cases e1
  exact nextUp_walk pv d n1 W ht hpl hd i1

end Go.Proofs.YtcmbehpilldlpaaDoor
