/- The law TopFair. -/
import Derived.Test.YtbmimdnpchldlaaGreatDoorKt15
namespace Go.Proofs.YtbmimdnpchldlaaGreatDoor
open Go.RowKit

set_option maxRecDepth 100000 in
set_option maxHeartbeats 16000000 in
theorem topFair_law (cs : Array Value) (v1 : Value) (W : World) (ht : Tab W) (h0 : Cells Tryz.prog W 25 cs.toList) (h1 : Cells Tryz.prog W 26 [v1]) :
    Calls Tryz.prog 15 #[.agg cs, v1] W fun e w' => e = .returned (.bool true) ∧ Ext W w' := by
  obtain ⟨d, pv, rfl, hpl, hd⟩ := design_of h0
  obtain ⟨raw, hr, hR⟩ := raw_for h1
  have EE := ext_al (Ext.refl W) (Obj.cells (dnc d pv) 25)
  have HB := blk_new W (Obj.cells (dnc d pv) 25)
  have HTA := Lib.hid (task_any pv v1 d raw 3 _ (hpl.ext EE) hd (ops_ext hr EE) hR (by omega))
  have HK := Lib.hid (task_ok d raw 3 (by omega))
  have HF := fm_for raw 3
  have HY := Lib.hid fun (fv : Value) (wx : World) (hx : Ext (W.alloc (Obj.cells (dnc d pv) 25)) wx) (hf : IsT wx fv (.n0 11 0)) => tholds_b pv fv d (.n0 11 0) wx ((ht.ext EE).ext hx) ((hpl.ext EE).ext hx) hd hf fm_yes (by omega) (by omega) true (holdsB_yes _ _ _)
  obtain ⟨C, hC, hCN⟩ := fm_room d HF (by omega)
  have HTB := Lib.hid (ht.ext EE)
  obtain ⟨ar0, cr0, rfl, _⟩ := id hr
  generalize forO raw 3 3 = t at *
  simp only [dnc] at HTA HY HTB EE HB ⊢
  generalize d.md = m at *
  generalize raw.length = nraw at *
  have HEX := Lib.hid fun vv rv qv fv wx (hT : IsTask wx vv rv qv fv m propT t) (hb : Tab wx) => explore_any vv rv qv fv m propT t wx hT hb HK.out C hC hCN
  have HVE := Lib.hid fun vv rv qv fv wx (hT : IsTask wx vv rv qv fv m propT t) (hb : Tab wx) => verdict_any vv rv qv fv m propT t wx hT hb HK.out C hC hCN
  have HGO := Lib.hid fun X L (hX : XDone (bX m propT t) (oX m t) (iX m propT t) X L) => xdone_gok HK.out hX C hC hCN
  have HFI := Lib.hid fun X L (hX : XDone (bX m propT t) (oX m t) (iX m propT t) X L) => fair_iff HK.out hX
  have cur := d7_of HB
  have HEE := Lib.hid EE
  clear ht hpl hd HB h0 h1 hr hR HF hC hCN EE
  go_enter Tryz.func15, Tryz.ntmps15
  go_wp2_with fail
  obtain ⟨dB, hdB⟩ : ∃ x, W.heap.size = x := ⟨_, rfl⟩
  rw [hdB] at cur ⊢
  clear hdB
  generalize W.alloc (Obj.cells #[.int .i64 d.s0, .int .i64 d.s1, .int .i64 d.l0, .int .i64 d.l1, .int .i64 d.i0, .int .i64 d.i1, pv] 25) = W0 at *
  refine HTA.out.mono ?_
  rintro e w1 ⟨vv, rv, qv, fv, rfl, hT1, hE1⟩
  obtain ⟨av, cv, ar, cr, ap, cp, af, nf, cf, rfl, rfl, rfl, rfl⟩ := hT1.val
  have HT1 := Lib.hid hT1
  have HE1 := Lib.hid hE1
  generalize m.vars.length = nv at *
  generalize m.rules.length = nr at *
  generalize propT.length = np at *
  have hx1 := ext_al (Ext.refl w1) (Obj.cells #[.slice av nv cv, .slice ar nr cr, .slice ap np cp, .slice af nf cf] 35)
  have HX1 := Lib.hid hx1
  have HBT := Lib.hid (blk_new w1 (Obj.cells #[.slice av nv cv, .slice ar nr cr, .slice ap np cp, .slice af nf cf] 35))
  have q0 := blk_cell HBT.out (i := 0) rfl
  have q1 := blk_cell HBT.out (i := 1) rfl
  have q2 := blk_cell HBT.out (i := 2) rfl
  have q3 := blk_cell HBT.out (i := 3) rfl
  clear hT1 hE1 hx1 HTA
  go_wp2_with fail
  generalize w1.alloc (Obj.cells #[.slice av nv cv, .slice ar nr cr, .slice ap np cp, .slice af nf cf] 35) = W1 at *
  refine (HEX.out _ _ _ _ _ (HT1.out.ext HX1.out) (HTB.out.ext (HE1.out.trans HX1.out))).mono ?_
  unfold ExplR
  rintro e w2 ⟨τ, sp, nx, st, X, L, rfl, hm, hX, hE2⟩
  clear q0 q1 q2 q3
  have hsp := hm.spots
  have hli := hm.lists
  have hin := hm.ints
  have hgo := HGO.out X L hX
  have hfi := HFI.out X L hX
  have hs1 : (X.map (sX m propT t)).length = X.length := by simp
  have hxl : L.length = X.length := hgo.nx
  obtain ⟨ini, hini⟩ : ∃ k, (iX m propT t).length = k := ⟨_, rfl⟩
  obtain ⟨kA, hkA⟩ : ∃ k, cntA t.flat = k := ⟨_, rfl⟩
  obtain ⟨bits, hbits⟩ : ∃ k, X.map (sX m propT t) = k := ⟨_, rfl⟩
  rw [hini, hkA, hbits] at hgo hfi
  rw [hini, hkA]
  rw [hbits] at hin hs1
  obtain ⟨asp, csp, rfl, _⟩ := id hsp
  obtain ⟨ax, cx, rfl⟩ : ∃ a c, nx = .slice a L.length c := by
    obtain ⟨vs, _, a, c, e, _⟩ := hli
    exact ⟨a, c, e⟩
  obtain ⟨at', ct, rfl, _⟩ := id hin
  have HGO2 := Lib.hid hgo
  have HFI2 := Lib.hid hfi
  have HSP := Lib.hid hsp
  have HLI := Lib.hid hli
  have HIN := Lib.hid hin
  obtain ⟨n, hn⟩ : ∃ k, X.length = k := ⟨_, rfl⟩
  rw [hn] at HSP hxl hs1 HGO2 HFI2 ⊢
  rw [hxl] at HLI ⊢
  rw [hs1] at HIN ⊢
  have HXN := Lib.hid hn
  have HE2 := Lib.hid (HE1.out.trans (HX1.out.trans hE2))
  have HT2 := Lib.hid (HT1.out.ext (HX1.out.trans hE2))
  have HBT2 := Lib.hid (blk_ext HBT.out hE2)
  have hx2 := ext_al (Ext.refl w2) (Obj.cells #[.slice asp n csp, .int .i64 (ini : Int), .slice ax n cx, .slice at' n ct, .int .i64 (kA : Int)] 44)
  have HG2 := Lib.hid (blk_new w2 (Obj.cells #[.slice asp n csp, .int .i64 (ini : Int), .slice ax n cx, .slice at' n ct, .int .i64 (kA : Int)] 44))
  have HX2 := Lib.hid hx2
  have HLA := Lib.hid fun wx (hx : Ext w2 wx) => lasso_any (.slice asp n csp) (.slice ax n cx) (.slice at' n ct) ini kA X L bits wx (HSP.out.ext hx) (HLI.out.ext hx) (HIN.out.ext hx) (by rw [HXN.out]; exact HGO2.out)
  have HFA := Lib.hid fun wx (hx : Ext w2 wx) => fairR_any (.slice asp n csp) (.slice ax n cx) (.slice at' n ct) ini kA X L bits wx (HSP.out.ext hx) (HLI.out.ext hx) (HIN.out.ext hx) (by rw [HXN.out]; exact HGO2.out)
  rw [HXN.out] at HLA HFA
  have g0 := blk_cell HG2.out (i := 0) rfl
  have g1 := blk_cell HG2.out (i := 1) rfl
  have g2 := blk_cell HG2.out (i := 2) rfl
  have g3 := blk_cell HG2.out (i := 3) rfl
  have g4 := blk_cell HG2.out (i := 4) rfl
  clear hm hX hE2 hsp hli hin hgo hfi hs1 hxl hini hkA hbits hn hx2 HGO HFI HEX HBT HT1 HE1 HX1
  go_wp2_with fail
  generalize w2.alloc (Obj.cells #[.slice asp n csp, .int .i64 (ini : Int), .slice ax n cx, .slice at' n ct, .int .i64 (kA : Int)] 44) = W2 at *
  refine (HFA.out _ HX2.out).mono ?_
  unfold FairPost
  rintro e w3 ⟨hf3, hE3⟩
  have HE3 := Lib.hid (HX2.out.trans hE3)
  have hg3 := blk_ext HG2.out hE3
  clear g0 g1 g2 g3 g4
  have g0 := blk_cell hg3 (i := 0) rfl
  have g1 := blk_cell hg3 (i := 1) rfl
  have g2 := blk_cell hg3 (i := 2) rfl
  have g3 := blk_cell hg3 (i := 3) rfl
  have g4 := blk_cell hg3 (i := 4) rfl
  clear hE3 hg3
  obtain ⟨k3, e3, hk3, rfl⟩ : ∃ (k3 e3 : Int), ((e3 = 0 ∧ ∃ m, FairR L (bitsN bits) kA n ini m) ∨ (e3 = 11 ∧ ∀ j, ¬ FairR L (bitsN bits) kA n ini j)) ∧ e = .returned (.tuple #[.int .i64 k3, .int .i64 e3]) := by
    rcases hf3 with ⟨m, rfl, h, _⟩ | ⟨rfl, h⟩
    · exact ⟨m, 0, .inl ⟨rfl, m, h⟩, rfl⟩
    · exact ⟨0, 11, .inr ⟨rfl, h⟩, rfl⟩
  have HK3 := Lib.hid hk3
  clear hf3 hk3
  go_wp2_with fail
  refine (HLA.out _ HE3.out).mono ?_
  unfold LassoR
  rintro e w4 ⟨hf4, hE4⟩
  obtain ⟨a1, n1, c1, a2, n2, c2, e4, hk4, rfl⟩ : ∃ (a1 : Option Addr) (n1 c1 : Nat) (a2 : Option Addr) (n2 c2 : Nat) (e4 : Int), ((e4 = 0 ∧ 0 < n2 ∧ ∃ m, FairR L (bitsN bits) kA n ini m) ∨ (e4 = 11 ∧ n2 = 0 ∧ ∀ j, ¬ FairR L (bitsN bits) kA n ini j)) ∧ e = .returned (.tuple #[.agg #[.slice a1 n1 c1, .slice a2 n2 c2], .int .i64 e4]) := by
    rcases hf4 with ⟨st, lp, a1, c1, a2, c2, rfl, _, _, hlo, _, _, h⟩ | ⟨rfl, h⟩
    · obtain ⟨_, _, _, _, hl0, _⟩ := hlo
      exact ⟨a1, st.length, c1, a2, lp.length, c2, 0, .inl ⟨rfl, hl0, h⟩, rfl⟩
    · exact ⟨none, 0, 0, none, 0, 0, 11, .inr ⟨rfl, rfl, h⟩, rfl⟩
  have HK4 := Lib.hid hk4
  have hx4 := ext_al (Ext.refl w4) (Obj.cells #[.slice a1 n1 c1, .slice a2 n2 c2] 38)
  have HL4 := Lib.hid (blk_new w4 (Obj.cells #[.slice a1 n1 c1, .slice a2 n2 c2] 38))
  have HE4 := Lib.hid (HE3.out.trans (hE4.trans hx4))
  have hb4 := blk_ext HBT2.out HE4.out
  have q0 := blk_cell hb4 (i := 0) rfl
  have q1 := blk_cell hb4 (i := 1) rfl
  have q2 := blk_cell hb4 (i := 2) rfl
  have q3 := blk_cell hb4 (i := 3) rfl
  clear hf4 hk4 hE4 hx4 hb4 g0 g1 g2 g3 g4 HLA HFA
  go_upto_region 5 with fail
  obtain ⟨lB, hlB⟩ : ∃ x, w4.heap.size = x := ⟨_, rfl⟩
  rw [hlB] at HL4 ⊢
  clear hlB
  generalize w4.alloc (Obj.cells #[.slice a1 n1 c1, .slice a2 n2 c2] 38) = W4 at *
  go_wp2_with fail
  refine (HVE.out _ _ _ _ _ (HT2.out.ext HE4.out) (HTB.out.ext (HE2.out.trans HE4.out))).mono ?_
  unfold VerR
  rintro e w5 ⟨b, a5, n5, c5, a6, n6, c6, rfl, hb5, hE5⟩
  clear q0 q1 q2 q3
  have hx5 := ext_al (Ext.refl w5) (Obj.cells #[.bool b, .slice a5 n5 c5, .slice a6 n6 c6] 81)
  have HV5 := Lib.hid (blk_new w5 (Obj.cells #[.bool b, .slice a5 n5 c5, .slice a6 n6 c6] 81))
  have HL5 := Lib.hid (blk_ext HL4.out (hE5.trans hx5))
  have HE5 := Lib.hid (HE2.out.trans (HE4.out.trans (hE5.trans hx5)))
  have cur5 := d7_later HE5.out cur
  obtain ⟨q0, q1, q2, q3, q4, q5, q6⟩ := id cur5
  have HBB := Lib.hid hb5
  clear hb5 hE5 hx5 HL4 HVE HT2 HE3 HX2
  go_upto_region 6 with fail
  obtain ⟨vB, hvB⟩ : ∃ x, w5.heap.size = x := ⟨_, rfl⟩
  rw [hvB] at HV5 ⊢
  clear hvB
  generalize w5.alloc (Obj.cells #[.bool b, .slice a5 n5 c5, .slice a6 n6 c6] 81) = W5 at *
  have hx6 := ext_al (Ext.refl W5) (Obj.cells #[.int .i64 11, .int .i64 0] 75)
  go_wp2_with fail
  refine (HY.out _ _ (HE5.out.trans hx6) (isT_lit W5 75 11 0 _ rfl)).mono ?_
  rintro e w7 ⟨rfl, hE7⟩
  clear q0 q1 q2 q3 q4 q5 q6 cur cur5
  have v0 := blk_cell (blk_ext HV5.out (hx6.trans hE7)) (i := 0) rfl
  have l1 := blk_cell (blk_ext HL5.out (hx6.trans hE7)) (i := 1) rfl
  have HEF := Lib.hid (HEE.out.trans (HE5.out.trans (hx6.trans hE7)))
  have hall : (b = true ∧ e3 = 11 ∧ e4 = 11 ∧ n2 = 0) ∨ (b = false ∧ e3 = 0 ∧ e4 = 0 ∧ 0 < n2) := by
    have h1 := HBB.out.trans (show HoldsR m propT t ↔ ¬ ∃ mm, FairR L (bitsN bits) kA n ini mm from by rw [HFI2.out]; exact Classical.not_not.symm)
    rcases HK3.out with ⟨r1, r2⟩ | ⟨r1, r2⟩
    · right
      refine ⟨by cases b; rfl; exact absurd r2 (h1.1 rfl), r1, ?_⟩
      rcases HK4.out with ⟨s1, s2, _⟩ | ⟨_, _, s3⟩
      · exact ⟨s1, s2⟩
      · obtain ⟨j, hj⟩ := r2
        exact absurd hj (s3 j)
    · left
      refine ⟨h1.2 fun ⟨j, hj⟩ => r2 j hj, r1, ?_⟩
      rcases HK4.out with ⟨_, _, j, hj⟩ | ⟨s1, s2, _⟩
      · exact absurd hj (r2 j)
      · exact ⟨s1, s2⟩
  clear hx6 hE7 HK3 HK4 HBB HFI2 HGO2
  rcases hall with ⟨rfl, rfl, rfl, rfl⟩ | ⟨rfl, rfl, rfl, hn2⟩
  · go_wp2
    go_ret
    exact ⟨rfl, HEF.out⟩
  · have hn2I : (0 : Int) < (n2 : Int) := by omega
    go_wp2
    go_ret
    exact ⟨rfl, HEF.out⟩

end Go.Proofs.YtbmimdnpchldlaaGreatDoor
