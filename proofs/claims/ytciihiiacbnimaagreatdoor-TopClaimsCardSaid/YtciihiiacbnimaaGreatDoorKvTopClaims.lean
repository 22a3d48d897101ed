/- The law TopClaims. -/
import Derived.Test.YtciihiiacbnimaaGreatDoorKv9
import Derived.Test.YtciihiiacbnimaaGreatDoorKv26
import Derived.Deep.RegionHeld3
import Derived.Test.YtciihiiacbnimaaGreatDoorKv16
import Derived.Test.YtciihiiacbnimaaGreatDoorKv12
import Derived.Deep.RegionLaw
import Derived.Deep.DeepCutAuto
import Derived.BigQuiet
namespace Go.Proofs.YtciihiiacbnimaaGreatDoor
open Go.RowKit
theorem room_of (d : Dn) {t : Tm} {a c : Nat} (h : Fm t a c) (hc : c ≤ 6) : ∃ C : Nat, countL d.md.vars = (C : Int) ∧ C * 2 ^ cntA t.flat ≤ 20000 := by
  have h1 := d.drawn.n1
  have h16 := d.drawn.n16
  have hcn := h.cnt
  refine ⟨(countL d.md.vars).toNat, by omega, ?_⟩
  have h2 : (countL d.md.vars).toNat ≤ 16 := by omega
  have h3 := Nat.pow_le_pow_right (n := 2) (by omega) (show cntA t.flat ≤ 6 by omega)
  exact Nat.le_trans (Nat.mul_le_mul h2 h3) (by decide)
set_option maxRecDepth 100000 in
set_option maxHeartbeats 16000000 in
theorem topClaims_law (cs : Array Value) (v1 v2 : Value) (W : World) (ht : Tab W) (h0 : Cells Tryz.prog W 25 cs.toList) (h1 : Cells Tryz.prog W 26 [v1]) (h2 : Cells Tryz.prog W 27 [v2]) :
    Calls Tryz.prog 3 #[.agg cs, v1, v2] W fun e w' => e = .returned (.bool true) ∧ Ext W w' := by
  obtain ⟨d, pv, rfl, hpl, hd⟩ := design_of h0
  obtain ⟨raw, hr, hR⟩ := raw_for h1
  obtain ⟨v2', ls, ev2, hl2, hi2⟩ := h2.ints Tryz.underlying27 Tryz.underlying3 (by kernel_rfl)
  cases ev2
  have EE := ext_al (Ext.refl W) (Obj.cells (dnc d pv) 25)
  have HB := blk_new W (Obj.cells (dnc d pv) 25)
  have HTA := Lib.hid (task_any pv v1 d raw 3 _ (hpl.ext EE) hd (ops_ext hr EE) hR (by omega))
  have HK := Lib.hid (task_ok d raw 3 (by omega))
  have HF := fm_for raw 3
  obtain ⟨C, hC, hCN⟩ := room_of d HF (by omega)
  have HTB := Lib.hid (ht.ext EE)
  have HLS := Lib.hid (Reads.ext hl2 EE)
  obtain ⟨ar0, cr0, rfl, _⟩ := id hr
  obtain ⟨al0, cl0, rfl, _⟩ := id hl2
  have hp3 : propT.length = 3 := rfl
  generalize forO raw 3 3 = t at *
  simp only [dnc] at HTA HTB HLS EE HB ⊢
  generalize d.md = m at *
  generalize raw.length = nraw at *
  obtain ⟨P, hP⟩ : ∃ P, propT = P := ⟨_, rfl⟩
  rw [hP] at HTA HK hp3
  clear hP
  have HLE := Lib.hid (fun c => (show (letS P (valsL m.vars c)).length = 3 from by rw [letS_len]; exact hp3))
  have hff3 : IsF t.flat ((3 : Nat) : Int) t := by have := HK.out.ff; rwa [hp3] at this
  have HFF := Lib.hid hff3
  clear hff3
  have HEX := Lib.hid fun vv rv qv fv wx (hT : IsTask wx vv rv qv fv m P t) (hb : Tab wx) => explore_any vv rv qv fv m P t wx hT hb HK.out C hC hCN
  have HWK := Lib.hid fun vv rv wx (hT : IsMd wx vv rv m) (hb : Tab wx) (hE : Ext (W.alloc (Obj.cells #[.int .i64 d.s0, .int .i64 d.s1, .int .i64 d.l0, .int .i64 d.l1, .int .i64 d.i0, .int .i64 d.i1, pv] 25)) wx) => walk_any vv rv (.slice al0 ls.length cl0) m ls wx hT hb HK.out.ok HK.out.v0 (Reads.ext HLS.out hE) hi2
  have cur := d7_of HB
  have HEE := Lib.hid EE
  generalize ls.length = nls at *
  have HP3 := Lib.hid hp3
  clear ht hpl hd HB h0 h1 h2 hr hR HF hC hCN EE hl2 hi2 HLS hp3
  go_enter Tryz.func3, Tryz.ntmps3
  go_wp2_with fail
  obtain ⟨dB, hdB⟩ : ∃ x, W.heap.size = x := ⟨_, rfl⟩
  rw [hdB] at cur ⊢
  clear hdB
  generalize W.alloc (Obj.cells #[.int .i64 d.s0, .int .i64 d.s1, .int .i64 d.l0, .int .i64 d.l1, .int .i64 d.i0, .int .i64 d.i1, pv] 25) = W0 at *
  refine HTA.out.mono ?_
  rintro e w1 ⟨vv, rv, qv, fv, rfl, hT1, hE1⟩
  obtain ⟨av, cv, ar, cr, ap, cp, af, nf, cf, rfl, rfl, rfl, rfl⟩ := hT1.val
  have HT1 := Lib.hid hT1
  have HE1 := Lib.hid hE1
  have HNX := Lib.hid fun (c : Int) wx (hx : Ext w1 wx) (hc : 0 ≤ c ∧ c < countL m.vars) => sletter_any _ _ _ m P c wx (hT1.md.ext hx) (HTB.out.ext (hE1.trans hx)) HK.out.ok (hT1.pr.ext hx) HK.out.pk hc.1 hc.2
  generalize m.vars.length = nv at *
  generalize m.rules.length = nr at *
  generalize P.length = np at *
  have hx1 := ext_al (Ext.refl w1) (Obj.cells #[.slice av nv cv, .slice ar nr cr, .slice ap np cp, .slice af nf cf] 35)
  have HX1 := Lib.hid hx1
  have HBT1 := Lib.hid (blk_new w1 (Obj.cells #[.slice av nv cv, .slice ar nr cr, .slice ap np cp, .slice af nf cf] 35))
  have q0 := blk_cell HBT1.out (i := 0) rfl
  have q1 := blk_cell HBT1.out (i := 1) rfl
  clear hT1 hE1 hx1 HTA cur
  go_upto_region 2 with fail
  obtain ⟨tB, htB⟩ : ∃ x, w1.heap.size = x := ⟨_, rfl⟩
  rw [htB] at HBT1 q0 q1 ⊢
  clear htB
  generalize w1.alloc (Obj.cells #[.slice av nv cv, .slice ar nr cr, .slice ap np cp, .slice af nf cf] 35) = W1 at *
  go_wp2_with fail
  refine (HWK.out _ _ _ (HT1.out.md.ext HX1.out) (HTB.out.ext (HE1.out.trans HX1.out)) (HE1.out.trans HX1.out)).mono ?_
  unfold WalkR
  rintro e w2 ⟨a1, n1, c1, a2, n2, c2, rfl, hE2, hrun⟩
  clear q0 q1
  have hx2 := ext_al (Ext.refl w2) (Obj.cells #[.slice a1 n1 c1, .slice a2 n2 c2] 38)
  have HBL2 := Lib.hid (blk_new w2 (Obj.cells #[.slice a1 n1 c1, .slice a2 n2 c2] 38))
  have HE12 := Lib.hid (HX1.out.trans (hE2.trans hx2))
  have HBT2 := Lib.hid (blk_ext HBT1.out (hE2.trans hx2))
  have HRU2 := Lib.hid (show n2 = 0 ∨ ∃ (p : List Int) (back : Nat), RunL m p.length back (fun i => p.getD i 0) ∧ n1 = back ∧ n2 = p.length - back ∧ p.length ≤ 12 ∧ Reads (w2.alloc (Obj.cells #[.slice a1 n1 c1, .slice a2 n2 c2] 38)) 1 (.slice a1 n1 c1) n1 ((p.take back).map (.int .i64)) ∧ Reads (w2.alloc (Obj.cells #[.slice a1 n1 c1, .slice a2 n2 c2] 38)) 1 (.slice a2 n2 c2) n2 ((p.drop back).map (.int .i64)) from by
    rcases hrun with h | ⟨p, back, h1, h2, h3, h4, h5, h6⟩
    · exact .inl h
    · exact .inr ⟨p, back, h1, h2, h3, h4, Reads.ext h5 hx2, Reads.ext h6 hx2⟩)
  clear hE2 hx2 hrun HWK HBT1 HX1
  have q0 := blk_cell HBT2.out (i := 0) rfl
  have q1 := blk_cell HBT2.out (i := 1) rfl
  have q2 := blk_cell HBT2.out (i := 2) rfl
  have q3 := blk_cell HBT2.out (i := 3) rfl
  go_upto_region 3 with fail
  obtain ⟨lB, hlB⟩ : ∃ x, w2.heap.size = x := ⟨_, rfl⟩
  rw [hlB] at HBL2 ⊢
  clear hlB
  generalize w2.alloc (Obj.cells #[.slice a1 n1 c1, .slice a2 n2 c2] 38) = W2 at *
  go_wp2_with fail
  refine (HEX.out _ _ _ _ _ (HT1.out.ext HE12.out) (HTB.out.ext (HE1.out.trans HE12.out))).mono ?_
  rintro e w3 ⟨τ, sp, nx, st, X, L, rfl, hm, hX, hE3⟩
  clear q0 q1 q2 q3
  have hsp := hm.spots
  have hli := hm.lists
  have hin := hm.ints
  obtain ⟨asp, csp, rfl, _⟩ := id hsp
  obtain ⟨ax, cx, rfl⟩ : ∃ a c, nx = .slice a L.length c := by
    obtain ⟨vs, _, a, c, e, _⟩ := hli
    exact ⟨a, c, e⟩
  obtain ⟨at', ct, rfl, _⟩ := id hin
  obtain ⟨ini, hini⟩ : ∃ k, (iX m P t).length = k := ⟨_, rfl⟩
  obtain ⟨kA, hkA⟩ : ∃ k, cntA t.flat = k := ⟨_, rfl⟩
  have HWAY := Lib.hid fun n back x (hr : RunL m n back x) (hns : ¬ Sat (wdOf m P n back x) t 0) => claims_way HK.out hX hr hns
  rw [hini, hkA] at HWAY
  rw [hini, hkA]
  have HKA := Lib.hid hkA
  have HND := Lib.hid hX.nd
  have HLX := Lib.hid hX.len
  clear hini hkA
  generalize (X.map (sX m P t)).length = ns at *
  have hx3 := ext_al (Ext.refl w3) (Obj.cells #[.slice asp X.length csp, .int .i64 (ini : Int), .slice ax L.length cx, .slice at' ns ct, .int .i64 (kA : Int)] 44)
  have HSP := Lib.hid (hsp.ext hx3)
  have HLI := Lib.hid (hli.ext hx3)
  have HBG := Lib.hid (blk_new w3 (Obj.cells #[.slice asp X.length csp, .int .i64 (ini : Int), .slice ax L.length cx, .slice at' ns ct, .int .i64 (kA : Int)] 44))
  have HE23 := Lib.hid (hE3.trans hx3)
  have HBT3 := Lib.hid (blk_ext HBT2.out (hE3.trans hx3))
  have HBL3 := Lib.hid (blk_ext HBL2.out (hE3.trans hx3))
  clear hm hX hE3 hsp hli hin hx3 HBT2 HBL2 HEX
  go_upto_region 4 with fail
  obtain ⟨gB, hgB⟩ : ∃ x, w3.heap.size = x := ⟨_, rfl⟩
  rw [hgB] at HBG ⊢
  clear hgB
  generalize w3.alloc (Obj.cells #[.slice asp X.length csp, .int .i64 (ini : Int), .slice ax L.length cx, .slice at' ns ct, .int .i64 (kA : Int)] 44) = W3 at *
  have l1 := blk_cell HBL3.out (i := 1) rfl
  rcases HRU2.out with h0 | ⟨p, back, hrun, hn1, hn2, h12, hrS, hrL⟩
  · have hz : ((n2 : Int) == 0) = true := by subst h0; rfl
    clear h0
    have HEF := Lib.hid (HEE.out.trans (HE1.out.trans (HE12.out.trans HE23.out)))
    go_wp2
    go_ret
    exact ⟨rfl, HEF.out⟩
  · subst hn1
    have hb := hrun.hb
    have hz : ((n2 : Int) == 0) = false := by rw [beq_eq_false_iff_ne]; omega
    have HRUN := Lib.hid hrun
    have HRIN := Lib.hid fun i (hi : i < p.length) => hrun.in HK.out.ok.toPre i hi
    have HN2 := Lib.hid hn2
    have H12 := Lib.hid h12
    have hlS : (p.take n1).length = n1 := by rw [List.length_take]; omega
    have hlL : (p.drop n1).length = n2 := by rw [List.length_drop]; omega
    have HRS := Lib.hid (show Ints W3 (.slice a1 n1 c1) (p.take n1) from by show Reads W3 1 _ (p.take n1).length _; rw [hlS]; exact Reads.ext hrS HE23.out)
    have HRL := Lib.hid (show Ints W3 (.slice a2 n2 c2) (p.drop n1) from by show Reads W3 1 _ (p.drop n1).length _; rw [hlL]; exact Reads.ext hrL HE23.out)
    have HKP := Lib.hid (vkeeps_any (.slice av nv cv) (.slice ar nr cr) (.slice ap np cp) (.slice af nf cf) (.slice a1 n1 c1) (.slice a2 n2 c2) m P t p n1 W3 (HT1.out.ext (HE12.out.trans HE23.out)) (HTB.out.ext (HE1.out.trans (HE12.out.trans HE23.out))) HK.out hrun HRS.out HRL.out h12)
    have l0 := blk_cell HBL3.out (i := 0) rfl
    have q0 := blk_cell HBT3.out (i := 0) rfl
    have q1 := blk_cell HBT3.out (i := 1) rfl
    have q2 := blk_cell HBT3.out (i := 2) rfl
    have q3 := blk_cell HBT3.out (i := 3) rfl
    clear hrun hn2 h12 hlS hlL hrS hrL
    go_wp2_with fail
    refine HKP.out.mono ?_
    rintro e w4 ⟨rfl, hE4⟩
    obtain ⟨z, hzz⟩ : ∃ z, satB (wdOf m P p.length n1 fun i => p.getD i 0) t 0 = z := ⟨_, rfl⟩
    rw [hzz]
    have HZZ := Lib.hid hzz
    have HE4 := Lib.hid hE4
    clear hzz hE4 l0 l1 q0 q1 q2 q3 HKP
    go_upto_region 10 with fail
    obtain ⟨wB, hwB⟩ : ∃ x, w4.heap.size = x := ⟨_, rfl⟩
    have hbw := blk_new w4 (Obj.cells #[.slice none 0 0, .slice none 0 0] 52)
    have hx5 := ext_al (Ext.refl w4) (Obj.cells #[.slice none 0 0, .slice none 0 0] 52)
    rw [hwB] at hbw ⊢
    have HWS := Lib.hid (show w4.heap.size ≤ wB by omega)
    have HX5 := Lib.hid hx5
    have HBW := Lib.hid hbw
    clear hbw hx5 hwB
    generalize w4.alloc (Obj.cells #[.slice none 0 0, .slice none 0 0] 52) = W5 at *
    have HLC := Lib.hid fun wx (hx : Ext W5 wx) => And.intro (blk_cell (blk_ext (blk_ext HBL3.out (HE4.out.trans HX5.out)) hx) (i := 0) rfl) (blk_cell (blk_ext (blk_ext HBL3.out (HE4.out.trans HX5.out)) hx) (i := 1) rfl)
    have HW1 := Lib.hid (Reads.ext HRS.out (HE4.out.trans HX5.out))
    have HW2 := Lib.hid (Reads.ext HRL.out (HE4.out.trans HX5.out))
    obtain ⟨_, _, e1, hw1⟩ := HW1.out
    simp only [Value.slice.injEq] at e1
    obtain ⟨rfl, -, rfl⟩ := e1
    obtain ⟨_, _, e2, hw2⟩ := HW2.out
    simp only [Value.slice.injEq] at e2
    obtain ⟨rfl, -, rfl⟩ := e2
    obtain ⟨N, hN⟩ : ∃ N, p.length = N := ⟨_, rfl⟩
    have HNN := Lib.hid hN
    have hl1 : (p.take n1).length = n1 := by rw [List.length_take]; omega
    have hl2 : (p.drop n1).length = n2 := by rw [List.length_drop]; have := HN2.out; omega
    rw [hl1] at hw1
    rw [hl2] at hw2
    have HV1 := Lib.hid hw1
    have HV2 := Lib.hid hw2
    have hbN : n1 < N := by omega
    have hN12 : N ≤ 12 := by have := H12.out; omega
    have hsum : n1 + n2 = N := by have := HN2.out; omega
    have HSUM := Lib.hid hsum
    have hone : ∀ (l : List Int) (u : Value), u ∈ l.map (Value.int .i64) → u.oneCell' = true := fun l u hu => by obtain ⟨_, _, rfl⟩ := List.mem_map.1 hu; rfl
    have HONE := Lib.hid hone
    have hn12 : n1 ≤ 12 := by omega
    have hn22 : n2 ≤ 12 := by omega
    obtain ⟨cL0, cL1⟩ := HLC.out W5 (Ext.refl _)
    clear hw1 hw2 hN hl1 hl2 hb HW1 HW2 hone hsum
    go_cut [15] (fun s8 wx => ∃ (a8 : Option Addr) (c8 : Nat), s8 = .slice a8 N c8 ∧ Ext W5 wx ∧ Row wx 1 a8 N c8 (p.map (.int .i64)))
    case first =>
      go_region_law (first
        | ((refine step_append rfl rfl Tryz.slIntsG W5.heap.size (by rfl) (own_ext HO5.out (by first | exact Ext.refl _ | exact ext_al (Ext.refl _) _)) (by rfl) (HV2.out.ext HE5.out) (HONE.out _) (by unfold maxLen; omega) (by omega) (Below.size HE5.out) ?_
            intro v6 w6 hown6 hg6 hb6 _
            have hE6 : Ext W5 w6 := Below.grown HE5.out hg6 (Below.size HE5.out) (fun b hb => (HO5.out.lt b hb).1)
            have HE6 := Lib.hid hE6
            obtain ⟨a6, c6, rfl, hrow6⟩ := hown6.row
            have HO6 := Lib.hid hrow6
            clear hown6 hg6 hb6 hE6 hrow6))
        | ((refine step_append rfl rfl Tryz.slIntsG W5.heap.size (by rfl) (World.ownsRow_nil _ _ _ _) (by rfl) (HV1.out.ext (by exact Below.drew (Ext.refl _))) (HONE.out _) (by unfold maxLen; omega) (by omega) (Below.size (show Ext W5 _ by exact Below.drew (Ext.refl _))) ?_
            intro v5 w5 hown5 hg5 hb5 _
            simp only [Nat.zero_add, List.nil_append] at hown5
            have hx5 := (Ext.refl _).grown hg5 (Nat.le_refl _) (by simp [Value.ownBlock])
            have hE5 : Ext W5 w5 := Ext.trans (Below.drew (Ext.refl _)) hx5
            have HE5 := Lib.hid hE5
            obtain ⟨a5, c5, rfl, _⟩ := hown5.row
            have HO5 := Lib.hid hown5
            have hc5 := HLC.out w5 hE5
            obtain ⟨cL0, cL1⟩ := hc5
            clear hown5 hg5 hb5 hx5 hE5)))
      all_goals
        go_wp2_with fail
        go_meet
        exact ⟨a6, c6, by rw [HSUM.out], HE6.out, by have h := HO6.out; rw [← List.map_append, List.take_append_drop, HSUM.out] at h; exact h⟩
    case rest =>
    obtain ⟨a8, c8, rfl, hE8, hrow⟩ := hcut
    clear cL0 cL1
    obtain ⟨b8, o8, i1, i2⟩ := ints_cells hrow
    obtain rfl := i1 (by have := HNN.out; omega)
    have HI2 := Lib.hid i2
    have hc8 := hrow.le
    have hm8 := hrow.max
    have hE4c := HX5.out.trans hE8
    have HG0 := Lib.hid (GW.start hE4c HWS.out (blk_ext HBW.out hE8))
    have HE8 := Lib.hid hE8
    obtain ⟨Wc, rfl⟩ : ∃ x, x = wc := ⟨_, rfl⟩
    unfold maxLen at hm8
    clear i2 hrow hE4c hE8
    obtain ⟨F, hF⟩ : ∃ F : Int → List Bool, F = fun c => letS P (valsL m.vars c) := ⟨_, rfl⟩
    have HFE := Lib.hid (show ∀ c, letS P (valsL m.vars c) = F c from fun c => by rw [hF])
    have HFL := Lib.hid (show ∀ c, (F c).length = 3 from fun c => by rw [hF]; exact HLE.out c)
    clear hF
    obtain ⟨SMq, hSM⟩ : ∃ SMq, (p.take n1).map F = SMq := ⟨_, rfl⟩
    obtain ⟨LP, hLP⟩ : ∃ LP, (p.drop n1).map F = LP := ⟨_, rfl⟩
    have HSM := Lib.hid hSM
    have HLP := Lib.hid hLP
    have HSL := Lib.hid (show SMq.length = n1 by rw [← hSM, List.length_map, List.length_take]; have := HNN.out; omega)
    have HLL := Lib.hid (show LP.length = n2 by rw [← hLP, List.length_map, List.length_drop]; have := HNN.out; have := HSUM.out; omega)
    have HSG := Lib.hid (show ∀ i (hi : i < n1) (hp : i < p.length), SMq.take (i + 1) = SMq.take i ++ [F p[i]] from fun i hi hp => by
      rw [List.take_succ_eq_append_getElem (by rw [HSL.out]; exact hi)]
      congr 2
      subst hSM
      simp)
    have HLG := Lib.hid (show ∀ i (hi : n1 ≤ i) (hp : i < p.length), LP.take (i - n1 + 1) = LP.take (i - n1) ++ [F p[i]] from fun i hi hp => by
      rw [List.take_succ_eq_append_getElem (by rw [HLL.out]; have := HNN.out; have := HSUM.out; omega)]
      congr 2
      subst hLP
      simp only [List.getElem_map, List.getElem_drop]
      congr 2
      omega)
    have hb8 : b8 ≠ wB := fun e => by
      have h1 := HI2.out 0 (by have := HNN.out; omega)
      rw [e] at h1
      have h2 := HG0.out.box
      simp only [World.cell?, h2] at h1
      rcases o8 with _ | _ | o8 <;> simp at h1
    have HB8 := Lib.hid hb8
    clear hSM hLP hb8
    go_wp2_with fail
    go_loopg [16] N (fun g x wr => ∃ (i ns nl : Nat) (τ : Nat → Nat) (a3 : Option Addr) (c3 : Nat) (a4 : Option Addr) (c4 : Nat) (vs vl : List Value), g + i = N ∧ x = .int .i64 (i : Int) ∧ ns = min i n1 ∧ nl = i - n1 ∧ GW w4 Wc wr wB τ (.slice a3 ns c3) (.slice a4 nl c4) ns nl vs vl (SMq.take ns) (LP.take nl))
    case atStart => exact ⟨0, 0, 0, _, none, 0, none, 0, [], [], by omega, by go_num, by omega, by omega, by simpa using HG0.out⟩
    case round =>
      obtain ⟨i, ns, nl, τ, a3, c3, a4, c4, vs, vl, hgi, rfl, hns, hnl, hG⟩ := hrel
      have HGI := Lib.hid hgi
      have HNS := Lib.hid hns
      have HNL := Lib.hid hnl
      have HG := Lib.hid hG
      have hE4w := HE4.out.trans hG.ext
      have hbt := blk_ext HBT3.out hE4w
      have q0 := blk_cell hbt (i := 0) rfl
      have q1 := blk_cell hbt (i := 1) rfl
      have q2 := blk_cell hbt (i := 2) rfl
      have hblw := blk_ext HBL3.out hE4w
      have l0 := blk_cell hblw (i := 0) rfl
      clear hgi hns hnl hG hE4w hbt hblw
      by_cases hi : i < N
      · have hip : i < p.length := by have := HNN.out; omega
        have ci := HG.out.cell (HI2.out i hip) HB8.out
        have hxi := HRIN.out i hip
        rw [show p.getD i 0 = p[i] by rw [List.getD, List.getElem?_eq_getElem hip]; rfl] at hxi
        have HTS := Lib.hid fun (h : i < n1) => HSG.out i h hip
        have HTL := Lib.hid fun (h : n1 ≤ i) => HLG.out i h hip
        generalize p[i] = x at *
        have HXI := Lib.hid hxi
        have hiI : (i : Int) < (N : Int) := by omega
        have hi0 : (0 : Int) ≤ (i : Int) := by omega
        have HE1r := Lib.hid (HE12.out.trans (HE23.out.trans (HE4.out.trans HG.out.ext)))
        clear hxi hip
        go_upto_region 14 with fail
        go_cut [17, 18] (fun s17 s18 wx => s18 = .int .i64 0 ∧ (∃ a9 c9, s17 = .slice a9 3 c9) ∧ wx.ownsRow wr.heap.size 4 1 s17 3 ((F x).map .bool) ∧ Ext wr wx)
        case first =>
          go_region_law (first
            | (go_simp
               go_at_call 8
               refine (HNX.out x _ (HE1r.out.trans (Below.drew (Ext.refl _))) HXI.out).mono ?_
               rintro e w6 ⟨v6, rfl, ho6, hE6⟩
               rw [HFE.out, HP3.out] at ho6
               have HO6 := Lib.hid (own_down ho6 (Below.size (show Ext wr _ from Below.drew (Ext.refl _))))
               have HE6 := Lib.hid (show Ext wr w6 from Ext.trans (Below.drew (Ext.refl _)) hE6)
               obtain ⟨a6, c6, rfl, _⟩ := HO6.out.row
               clear ho6 hE6))
          all_goals
            go_wp2_with fail
            go_meet
            exact ⟨rfl, ⟨_, _, rfl⟩, HO6.out, HE6.out⟩
        case rest =>
        obtain ⟨rfl, ⟨a9, c9, rfl⟩, ho9, hE9⟩ := hcut
        have HO9 := Lib.hid ho9
        have HE9 := Lib.hid hE9
        obtain ⟨w9, rfl⟩ : ∃ x, x = wc := ⟨_, rfl⟩
        have hsz : Wc.heap.size ≤ w9.heap.size + 1 := by have := HG.out.hi; have := hE9.size; omega
        clear ho9 hE9 q0 q1 q2 l0 ci
        have l0 := blk_cell (blk_ext (blk_ext HBL3.out (HE4.out.trans HG.out.ext)) HE9.out) (i := 0) rfl
        have hns12 : ns ≤ 12 := by have := HNS.out; omega
        have hnl12 : nl ≤ 12 := by have := HNL.out; omega
        by_cases hs : i < n1
        · have hsI : (i : Int) < (n1 : Int) := by omega
          have z0 := blk_cell (blk_ext HG.out.box HE9.out) (i := 0) rfl
          have hoR := own_ext (own_ext HG.out.so.own HE9.out) (ext_al (Ext.refl w9) (Obj.cells #[.slice a9 3 c9] 53))
          go_wp2_with (at_builtin; go_must (refine wpl_append rfl rfl Tryz.slBoolss Wc.heap.size rfl hoR rfl (Row.oneAt' _ _ _ _ (by simp)) (by simp [Value.oneCell']) (by unfold maxLen; omega) (by omega) (by simpa using hsz) ?_))
          intro v3 w3' hown3 hg3 hb3 _
          obtain ⟨a5, c5, rfl, _⟩ := id hown3.row
          have hbx := blk_grown (blk_ext (blk_ext HG.out.box HE9.out) (ext_al (Ext.refl w9) (Obj.cells #[.slice a9 3 c9] 53))) hg3 (fun e => by have h1 := (HG.out.so.own.lt wB e.symm).1; have h2 := HG.out.lt; omega)
          have y0 := blk_cell hbx (i := 0) rfl
          have f0 := blk_free hbx 0
          obtain ⟨τ', hM'⟩ := HG.out.stepS HE9.out (own_bools_ent (k := wr.heap.size) (by rw [HFL.out]; exact HO9.out)) _ hown3 hg3 (by simpa using hb3)
          have e1 : ns = i := by have := HNS.out; omega
          rw [e1, ← HTS.out hs, ← e1] at hM'
          have HM' := Lib.hid hM'
          clear hown3 hg3 hb3 hM' hoR z0 hbx e1 l0 hsz
          go_wp2_with fail
          go_roundg (gk - 1)
          case measure => have := HGI.out; omega
          case rel => exact ⟨i + 1, ns + 1, nl, τ', a5, c5, a4, c4, _, _, by have := HGI.out; omega, by go_num, by have := HNS.out; omega, by have := HNL.out; omega, HM'.out⟩
        · have hsI : ¬ (i : Int) < (n1 : Int) := by omega
          have z0 := blk_cell (blk_ext HG.out.box HE9.out) (i := 1) rfl
          have hoR := own_ext (own_ext HG.out.mo.own HE9.out) (ext_al (Ext.refl w9) (Obj.cells #[.slice a9 3 c9] 53))
          go_wp2_with (at_builtin; go_must (refine wpl_append rfl rfl Tryz.slBoolss Wc.heap.size rfl hoR rfl (Row.oneAt' _ _ _ _ (by simp)) (by simp [Value.oneCell']) (by unfold maxLen; omega) (by omega) (by simpa using hsz) ?_))
          intro v3 w3' hown3 hg3 hb3 _
          obtain ⟨a5, c5, rfl, _⟩ := id hown3.row
          have hbx := blk_grown (blk_ext (blk_ext HG.out.box HE9.out) (ext_al (Ext.refl w9) (Obj.cells #[.slice a9 3 c9] 53))) hg3 (fun e => by have h1 := (HG.out.mo.own.lt wB e.symm).1; have h2 := HG.out.lt; omega)
          have y0 := blk_cell hbx (i := 1) rfl
          have f0 := blk_free hbx 1
          obtain ⟨τ', hM'⟩ := HG.out.stepL HE9.out (own_bools_four (k := wr.heap.size) (by rw [HFL.out]; exact HO9.out)) _ hown3 hg3 (by simpa using hb3)
          have e1 : nl = i - n1 := HNL.out
          rw [e1, ← HTL.out (by omega), ← e1] at hM'
          have HM' := Lib.hid hM'
          clear hown3 hg3 hb3 hM' hoR z0 hbx e1 l0 hsz
          go_wp2_with fail
          go_roundg (gk - 1)
          case measure => have := HGI.out; omega
          case rel => exact ⟨i + 1, ns, nl + 1, τ', a3, c3, a5, c5, _, _, by have := HGI.out; omega, by go_num, by have := HNS.out; omega, by have := HNL.out; omega, HM'.out⟩
      · have hiN : i = N := by have := HGI.out; omega
        have hiI : ¬ (i : Int) < (N : Int) := by omega
        have e1 : ns = n1 := by have := HNS.out; omega
        have e2 : nl = n2 := by have := HNL.out; have := HSUM.out; omega
        have hG := HG.out
        rw [show SMq.take ns = SMq from List.take_of_length_le (by rw [HSL.out]; omega), show LP.take nl = LP from List.take_of_length_le (by rw [HLL.out]; omega)] at hG
        have hE1r := HE12.out.trans (HE23.out.trans (HE4.out.trans hG.ext))
        have hok : WdOk SMq LP 3 := ⟨by rw [HSL.out]; omega, by rw [HLL.out]; have := HSUM.out; omega, by rw [HLL.out]; omega, fun x hx => by
          rcases List.mem_append.1 hx with hx | hx
          · rw [← HSM.out] at hx; obtain ⟨c, _, rfl⟩ := List.mem_map.1 hx; exact HFL.out c
          · rw [← HLP.out] at hx; obtain ⟨c, _, rfl⟩ := List.mem_map.1 hx; exact HFL.out c⟩
        have HCM := Lib.hid (claims_any (.slice af nf cf) (.slice a3 ns c3) (.slice a4 nl c4) t SMq LP 3 wr (HT1.out.fo.ext hE1r) (HTB.out.ext (HE1.out.trans hE1r)) HFF.out ⟨hG.done.1, hG.done.2⟩ hok N (by rw [List.length_append, HSL.out, HLL.out]; exact HSUM.out) kA HKA.out)
        have z0 := blk_cell hG.box (i := 0) rfl
        have z1 := blk_cell hG.box (i := 1) rfl
        have q3 := blk_cell (blk_ext HBT3.out (HE4.out.trans hG.ext)) (i := 3) rfl
        have HGe := Lib.hid hG.ext
        have HCS := Lib.hid fun (j : Nat) (hj : j < p.length) => hG.cell (HI2.out j hj) HB8.out
        clear q0 q1 q2 l0 hok hE1r e1 e2 hG
        go_wp2_with fail
        refine HCM.out.mono ?_
        rintro e w5 ⟨D, rfl, ho5, hE5⟩
        clear z0 z1 q3 HCM
        have HO5 := Lib.hid ho5
        have HE5 := Lib.hid hE5
        have hNb : ((N : Int) == (N : Int)) = true := by simp
        clear ho5 hE5
        cases z
        case' true =>
          go_wp2
          go_ret
          exact ⟨rfl, HEE.out.trans (HE1.out.trans (HE12.out.trans (HE23.out.trans (HE4.out.trans (HGe.out.trans HE5.out)))))⟩
        case' false =>
          have hwd : (⟨SMq ++ LP, SMq.length⟩ : Wd) = wdOf m P p.length n1 (fun i => p.getD i 0) := by
            rw [← wdOf_list m P p (show n1 < p.length by have := HNN.out; omega), ← HSM.out, ← HLP.out]
            simp only [HFE.out]
          obtain ⟨id, hid, hid0, hed⟩ := HWAY.out _ _ _ HRUN.out (fun h => by have := satB_iff.2 h; rw [HZZ.out] at this; cases this)
          rw [← hwd] at hid
          have ho5 := HO5.out
          obtain ⟨cf, hcf⟩ : ∃ cf : Nat → Nat, clU (ahB ⟨SMq ++ LP, SMq.length⟩ t) kA = cf := ⟨_, rfl⟩
          rw [hcf] at hid ho5
          have HID := Lib.hid hid
          have HI0 := Lib.hid hid0
          have HED := Lib.hid hed
          have HCC := Lib.hid fun (j : Nat) (hj : j < N) => rowI_cell ho5 hj
          have HSS := Lib.hid fun (j : Nat) (hj : j < p.length) => cell_later HE5.out (HCS.out j hj)
          have HE35 := Lib.hid (HE4.out.trans (HGe.out.trans HE5.out))
          have HBG5 := Lib.hid (blk_ext HBG.out HE35.out)
          have HBL5 := Lib.hid (blk_ext HBL3.out HE35.out)
          obtain ⟨hsc1, hsc2, bX, oX', sx1, sx2⟩ := spots_cells HSP.out
          have hX0 : 0 < X.length := by have := (List.getElem?_eq_some_iff.1 (hid 0 (by have := HNN.out; omega))).1; omega
          obtain rfl := sx1 hX0
          have HSC := Lib.hid fun (j : Nat) (hj : j < X.length) => And.intro (cell_later HE35.out (sx2 j hj).1) (cell_later HE35.out (sx2 j hj).2)
          obtain ⟨NX, hNX⟩ : ∃ NX, X.length = NX := ⟨_, rfl⟩
          have HNX2 := Lib.hid hNX
          rw [hNX] at HBG5 hsc1
          have HLI5 := Lib.hid (HLI.out.ext HE35.out)
          have hEF := HEE.out.trans (HE1.out.trans (HE12.out.trans (HE23.out.trans HE35.out)))
          have HEF := Lib.hid hEF
          unfold maxLen at hsc2
          clear hwd hid hid0 hed ho5 hcf sx2 hX0 hNX HCS hEF
          go_wp2_with fail
          go_loopg [22, 21] (N + 1) (fun g x y wq => ∃ (i : Nat) (av : Int), g + i = N + 1 ∧ x = .int .i64 (i : Int) ∧ y = .int .i64 av ∧ (i = 0 → av = -1) ∧ (∀ j, j < N → i = j + 1 → av = ((id j : Nat) : Int)) ∧ Ext w5 wq)
          case atStart => exact ⟨0, -1, by omega, by go_num, rfl, fun _ => rfl, fun j _ h => by omega, Ext.refl _⟩
          case round =>
            obtain ⟨i, av', hgi, rfl, rfl, hav0, hav1, hE⟩ := hrel
            have HGI := Lib.hid hgi
            have HAV0 := Lib.hid hav0
            have HAV1 := Lib.hid hav1
            clear hgi hav0 hav1
            by_cases hi : i ≤ N
            · have hiI : (i : Int) ≤ (N : Int) := by omega
              rcases Nat.lt_or_ge i N with hlt | hge
              · have hki : ((i : Int) == (N : Int)) = false := by rw [beq_eq_false_iff_ne]; omega
                have hKN : i < N := by omega
                have hKp : i < p.length := by have := HNN.out; omega
                have cK := cell_later hE (HSS.out i hKp)
                have cC := cell_later hE (HCC.out i hKN)
                have hXK := HID.out i hKp
                rw [show p.getD i 0 = p[i] by rw [List.getD, List.getElem?_eq_getElem hKp]; rfl] at hXK
                generalize p[i] = sK at *
                generalize cf i = cK0 at *
                obtain ⟨ik, hik⟩ : ∃ ik, id i = ik := ⟨_, rfl⟩
                rw [hik] at hXK
                have hikX : ik < NX := by have := (List.getElem?_eq_some_iff.1 hXK).1; have := HNX2.out; omega
                have HXK := Lib.hid hXK
                have HIK := Lib.hid hik
                have HCK := Lib.hid cK
                have HCC0 := Lib.hid cC
                have hKI : (i : Int) < (N : Int) := by omega
                have hK0 : (0 : Int) ≤ (i : Int) := by omega
                obtain ⟨go, hgo⟩ : ∃ x : Nat, x = gk := ⟨_, rfl⟩
                have HGO := Lib.hid hgo
                obtain ⟨wq, rfl⟩ : ∃ x, x = wr := ⟨_, rfl⟩
                have hbl := blk_ext HBL5.out hE
                have l0 := blk_cell hbl (i := 0) rfl
                have HEo := Lib.hid hE
                clear hXK hik hgo hbl hE cK cC
                go_wp2_with fail
                clear l0
                go_loopg [25, 24] NX (fun g x y wq2 => ∃ (s : Nat) (tv : Int), g + s = NX ∧ x = .int .i64 (s : Int) ∧ y = .int .i64 tv ∧ tv = (if ik < s then (ik : Int) else -1) ∧ Ext wq wq2)
                case atStart => exact ⟨0, -1, by omega, by go_num, rfl, by simp, Ext.refl _⟩
                case round =>
                  obtain ⟨s, tv, hgs, rfl, rfl, htv, hE⟩ := hrel
                  have HGS := Lib.hid hgs
                  have HTV := Lib.hid htv
                  have HEq := Lib.hid hE
                  have g0 := blk_cell (blk_ext (blk_ext HBG5.out HEo.out) hE) (i := 0) rfl
                  have cK := cell_later hE HCK.out
                  have cC := cell_later hE HCC0.out
                  clear hgs htv hE
                  by_cases hs : s < NX
                  · have hsX : s < X.length := by have := HNX2.out; omega
                    obtain ⟨c0, c1⟩ := HSC.out s hsX
                    replace c0 := cell_later (HEo.out.trans HEq.out) c0
                    replace c1 := cell_later (HEo.out.trans HEq.out) c1
                    have hgX : X[s]? = some X[s] := List.getElem?_eq_getElem hsX
                    have hne : s ≠ ik → X[s] ≠ (sK, (cK0 : Int)) := fun h e => h (spot_one HND.out (hgX.trans (congrArg some e)) HXK.out)
                    have heq : s = ik → X[s] = (sK, (cK0 : Int)) := fun h => by
                      have h1 := HXK.out
                      rw [← h, hgX] at h1
                      exact Option.some.inj h1
                    generalize X[s] = xs at *
                    have hsI : (s : Int) < (NX : Int) := by omega
                    have hs0 : (0 : Int) ≤ (s : Int) := by omega
                    clear hgX hsX
                    by_cases e : s = ik
                    · obtain rfl := heq e
                      have hEQ : ∀ wx, (Op.equalIn 10000 59 (.agg #[.int .i64 sK, .int .i64 (cK0 : Int)]) (.agg #[.int .i64 sK, .int .i64 (cK0 : Int)])).run Tryz.prog wx = .ok true wx := fun wx => by have h := Tryz.spotEq (sK, (cK0 : Int)) (sK, (cK0 : Int)) wx; simpa [encSp] using h
                      have HTN := Lib.hid (show (s : Int) = (if ik < s + 1 then (ik : Int) else -1) by rw [if_pos (by omega), e])
                      clear hne heq e
                      go_wp2_with fail
                      go_quiet (fail)
                      have HEX := Lib.hid (HEq.out.trans (below_drewN (Ext.refl _) nq))
                      clear hEQ c0 c1 g0 cK cC
                      go_wp2_with fail
                      go_roundg (gk - 1)
                      case measure => have := HGS.out; omega
                      case rel => exact ⟨s + 1, _, by have := HGS.out; omega, by go_num, rfl, HTN.out, HEX.out⟩
                    · have hEQ : ∀ wx, (Op.equalIn 10000 59 (.agg #[.int .i64 xs.1, .int .i64 xs.2]) (.agg #[.int .i64 sK, .int .i64 (cK0 : Int)])).run Tryz.prog wx = .ok false wx := fun wx => by
                        have h := Tryz.spotEq xs (sK, (cK0 : Int)) wx
                        rw [decide_eq_false (hne e)] at h
                        exact h
                      have HTN := Lib.hid (show tv = (if ik < s + 1 then (ik : Int) else -1) by
                        rw [HTV.out]
                        by_cases h : ik < s
                        · rw [if_pos h, if_pos (by omega)]
                        · rw [if_neg h, if_neg (by omega)])
                      clear hne heq e
                      go_wp2_with fail
                      go_quiet (fail)
                      have HEX := Lib.hid (HEq.out.trans (below_drewN (Ext.refl _) nq))
                      clear hEQ c0 c1 g0 cK cC
                      go_wp2_with fail
                      go_roundg (gk - 1)
                      case measure => have := HGS.out; omega
                      case rel => exact ⟨s + 1, _, by have := HGS.out; omega, by go_num, rfl, HTN.out, HEX.out⟩
                  · have hsN : s = NX := by have := HGS.out; omega
                    have hsI : ¬ (s : Int) < (NX : Int) := by omega
                    have htv : tv = (ik : Int) := by rw [HTV.out, if_pos (by omega)]
                    rw [htv]
                    have hik0 : decide ((ik : Int) < 0) = false := decide_eq_false (by omega)
                    have hgb := blk_ext (blk_ext HBG5.out HEo.out) HEq.out
                    have g1 := blk_cell hgb (i := 1) rfl
                    have g2 := blk_cell hgb (i := 2) rfl
                    clear hgb cK cC
                    by_cases hz0 : i = 0
                    · have hzi : ((i : Int) == 0) = true := by rw [beq_iff_eq]; omega
                      have h0 : ik < ini := by have h1 := HI0.out; have h2 := HIK.out; rw [hz0] at h2; omega
                      have hii : decide ((ini : Int) ≤ (ik : Int)) = false := decide_eq_false (by omega)
                      have hii2 : decide (ini ≤ ik) = false := decide_eq_false (by omega)
                      have hpos : decide ((0 : Int) < (i : Int)) = false := decide_eq_false (by omega)
                      have hpos2 : decide (0 < i) = false := decide_eq_false (by omega)
                      clear h0
                      go_wp2_with fail
                      clear g0 g1 g2
                      go_loopg [27, 26] 0 (fun g x y wq3 => x = .int .i64 0 ∧ y = .bool true ∧ Ext wq wq3)
                      case atStart => exact ⟨by go_num, rfl, HEq.out⟩
                      case round =>
                        obtain ⟨rfl, rfl, hE⟩ := hrel
                        have HEW := Lib.hid (HEo.out.trans hE)
                        go_wp2_with fail
                        go_roundg (go - 1)
                        case measure => have := HGO.out; have := HGI.out; omega
                        case rel => exact ⟨i + 1, (ik : Int), by have := HGO.out; have := HGI.out; omega, by go_num, rfl, (fun h => by omega), (fun j _ h => by have e : i = j := (by omega); rw [← e, HIK.out]), HEW.out⟩
                    · have hzi : ((i : Int) == 0) = false := by rw [beq_eq_false_iff_ne]; omega
                      have hpos : decide ((0 : Int) < (i : Int)) = true := decide_eq_true (by omega)
                      obtain ⟨ia, hia⟩ : ∃ ia, id (i - 1) = ia := ⟨_, rfl⟩
                      have hav : av' = (ia : Int) := by rw [← hia]; exact HAV1.out (i - 1) (by omega) (by omega)
                      have hedge := HED.out (i - 1) (by have := HNN.out; omega)
                      unfold nxt at hedge
                      rw [if_pos (by have := HNN.out; omega), show i - 1 + 1 = i by omega, hia, HIK.out] at hedge
                      obtain ⟨l, hl, hmm⟩ := hedge
                      obtain ⟨hia2, hla⟩ := List.getElem?_eq_some_iff.1 hl
                      obtain ⟨-, hc1, hc2, bL, oL, y1, y2⟩ := HLI5.out.cells
                      obtain rfl := y1 (by omega)
                      obtain ⟨aL, cL, cz, hil⟩ := y2 ia hia2
                      rw [hla] at cz hil
                      obtain ⟨_, _, el, hrl⟩ := hil
                      simp only [Value.slice.injEq, true_and] at el
                      obtain ⟨rfl, rfl⟩ := el
                      obtain ⟨bl, ol, z1, z2⟩ := ints_cells hrl
                      obtain rfl := z1 (List.length_pos_of_mem hmm)
                      obtain ⟨n4, hn4⟩ : ∃ x, l.length = x := ⟨_, rfl⟩
                      have HN4 := Lib.hid hn4
                      have hr1 := hrl.le
                      have hr2 := hrl.max
                      rw [hn4] at cz hr1
                      have HCZ := Lib.hid (cell_later HEo.out cz)
                      have HZ2 := Lib.hid fun (j : Nat) (hj : j < l.length) => cell_later HEo.out (z2 j hj)
                      have HMM := Lib.hid hmm
                      have hiaI : (ia : Int) < (L.length : Int) := by omega
                      have hia0 : (0 : Int) ≤ (ia : Int) := by omega
                      rw [hav]
                      unfold maxLen at hc2 hr2
                      clear hia hav hl hia2 hla y2 cz hrl z1 z2 hn4 hmm
                      go_wp2_with fail
                      clear g0 g1 g2
                      go_loopg [27, 26] n4 (fun g x y wq3 => ∃ (q : Nat) (b : Bool), g + q = n4 ∧ x = .int .i64 (q : Int) ∧ y = .bool b ∧ (b = true ↔ ∃ r, r < q ∧ l[r]? = some (ik : Int)) ∧ Ext wq wq3)
                      case atStart => exact ⟨0, false, by omega, by go_num, rfl, ⟨(fun h => by cases h), fun ⟨r, hr, _⟩ => by omega⟩, HEq.out⟩
                      case round =>
                        obtain ⟨q, b, hgq, rfl, rfl, hb, hE⟩ := hrel
                        have HGQ := Lib.hid hgq
                        have HBQ := Lib.hid hb
                        have HEz := Lib.hid hE
                        have g2 := blk_cell (blk_ext (blk_ext HBG5.out HEo.out) hE) (i := 2) rfl
                        have cz := cell_later hE HCZ.out
                        clear hgq hb hE
                        by_cases hq : q < n4
                        · have hql : q < l.length := by have := HN4.out; omega
                          have cq := cell_later HEz.out (HZ2.out q hql)
                          have HGX := Lib.hid (show l[q]? = some l[q] from List.getElem?_eq_getElem hql)
                          generalize l[q] = y at *
                          have hqI : (q : Int) < (n4 : Int) := by omega
                          have hq0 : (0 : Int) ≤ (q : Int) := by omega
                          obtain ⟨e2, he2⟩ : ∃ e2, (y == (ik : Int)) = e2 := ⟨_, rfl⟩
                          have HBN := Lib.hid (show (b || e2) = true ↔ ∃ r, r < q + 1 ∧ l[r]? = some (ik : Int) from by
                            rw [Bool.or_eq_true, HBQ.out, ← he2, beq_iff_eq]
                            constructor
                            · rintro (⟨r, h1, h2⟩ | h1)
                              · exact ⟨r, by omega, h2⟩
                              · subst h1; exact ⟨q, by omega, HGX.out⟩
                            · rintro ⟨r, h1, h2⟩
                              by_cases er : r = q
                              · subst er
                                rw [HGX.out] at h2
                                exact .inr (Option.some.inj h2)
                              · exact .inl ⟨r, by omega, h2⟩)
                          clear hql
                          cases b
                          all_goals cases e2
                          all_goals
                            go_wp2_with fail
                            go_roundg (gk - 1)
                            case measure => have := HGQ.out; omega
                            case rel => exact ⟨q + 1, _, by have := HGQ.out; omega, by go_num, rfl, HBN.out, HEz.out⟩
                        · have hqI : ¬ (q : Int) < (n4 : Int) := by omega
                          obtain rfl : b = true := HBQ.out.2 (by
                            obtain ⟨r, hr, e⟩ := List.mem_iff_getElem.1 HMM.out
                            exact ⟨r, by have := HN4.out; omega, by rw [List.getElem?_eq_getElem hr, e]⟩)
                          have HEW := Lib.hid (HEo.out.trans HEz.out)
                          go_wp2_with fail
                          go_roundg (go - 1)
                          case measure => have := HGO.out; have := HGI.out; omega
                          case rel => exact ⟨i + 1, (ik : Int), by have := HGO.out; have := HGI.out; omega, by go_num, rfl, (fun h => by omega), (fun j _ h => by have e : i = j := (by omega); rw [← e, HIK.out]), HEW.out⟩
              · have hki : ((i : Int) == (N : Int)) = true := by rw [beq_iff_eq]; omega
                have hKN : n1 < N := by omega
                have hKp : n1 < p.length := by have := HNN.out; omega
                have cK := cell_later hE (HSS.out n1 hKp)
                have cC := cell_later hE (HCC.out n1 hKN)
                have hXK := HID.out n1 hKp
                rw [show p.getD n1 0 = p[n1] by rw [List.getD, List.getElem?_eq_getElem hKp]; rfl] at hXK
                generalize p[n1] = sK at *
                generalize cf n1 = cK0 at *
                obtain ⟨ik, hik⟩ : ∃ ik, id n1 = ik := ⟨_, rfl⟩
                rw [hik] at hXK
                have hikX : ik < NX := by have := (List.getElem?_eq_some_iff.1 hXK).1; have := HNX2.out; omega
                have HXK := Lib.hid hXK
                have HIK := Lib.hid hik
                have HCK := Lib.hid cK
                have HCC0 := Lib.hid cC
                have hKI : (n1 : Int) < (N : Int) := by omega
                have hK0 : (0 : Int) ≤ (n1 : Int) := by omega
                obtain ⟨go, hgo⟩ : ∃ x : Nat, x = gk := ⟨_, rfl⟩
                have HGO := Lib.hid hgo
                obtain ⟨wq, rfl⟩ : ∃ x, x = wr := ⟨_, rfl⟩
                have hbl := blk_ext HBL5.out hE
                have l0 := blk_cell hbl (i := 0) rfl
                have HEo := Lib.hid hE
                clear hXK hik hgo hbl hE cK cC
                go_wp2_with fail
                clear l0
                go_loopg [25, 24] NX (fun g x y wq2 => ∃ (s : Nat) (tv : Int), g + s = NX ∧ x = .int .i64 (s : Int) ∧ y = .int .i64 tv ∧ tv = (if ik < s then (ik : Int) else -1) ∧ Ext wq wq2)
                case atStart => exact ⟨0, -1, by omega, by go_num, rfl, by simp, Ext.refl _⟩
                case round =>
                  obtain ⟨s, tv, hgs, rfl, rfl, htv, hE⟩ := hrel
                  have HGS := Lib.hid hgs
                  have HTV := Lib.hid htv
                  have HEq := Lib.hid hE
                  have g0 := blk_cell (blk_ext (blk_ext HBG5.out HEo.out) hE) (i := 0) rfl
                  have cK := cell_later hE HCK.out
                  have cC := cell_later hE HCC0.out
                  clear hgs htv hE
                  by_cases hs : s < NX
                  · have hsX : s < X.length := by have := HNX2.out; omega
                    obtain ⟨c0, c1⟩ := HSC.out s hsX
                    replace c0 := cell_later (HEo.out.trans HEq.out) c0
                    replace c1 := cell_later (HEo.out.trans HEq.out) c1
                    have hgX : X[s]? = some X[s] := List.getElem?_eq_getElem hsX
                    have hne : s ≠ ik → X[s] ≠ (sK, (cK0 : Int)) := fun h e => h (spot_one HND.out (hgX.trans (congrArg some e)) HXK.out)
                    have heq : s = ik → X[s] = (sK, (cK0 : Int)) := fun h => by
                      have h1 := HXK.out
                      rw [← h, hgX] at h1
                      exact Option.some.inj h1
                    generalize X[s] = xs at *
                    have hsI : (s : Int) < (NX : Int) := by omega
                    have hs0 : (0 : Int) ≤ (s : Int) := by omega
                    clear hgX hsX
                    by_cases e : s = ik
                    · obtain rfl := heq e
                      have hEQ : ∀ wx, (Op.equalIn 10000 59 (.agg #[.int .i64 sK, .int .i64 (cK0 : Int)]) (.agg #[.int .i64 sK, .int .i64 (cK0 : Int)])).run Tryz.prog wx = .ok true wx := fun wx => by have h := Tryz.spotEq (sK, (cK0 : Int)) (sK, (cK0 : Int)) wx; simpa [encSp] using h
                      have HTN := Lib.hid (show (s : Int) = (if ik < s + 1 then (ik : Int) else -1) by rw [if_pos (by omega), e])
                      clear hne heq e
                      go_wp2_with fail
                      go_quiet (fail)
                      have HEX := Lib.hid (HEq.out.trans (below_drewN (Ext.refl _) nq))
                      clear hEQ c0 c1 g0 cK cC
                      go_wp2_with fail
                      go_roundg (gk - 1)
                      case measure => have := HGS.out; omega
                      case rel => exact ⟨s + 1, _, by have := HGS.out; omega, by go_num, rfl, HTN.out, HEX.out⟩
                    · have hEQ : ∀ wx, (Op.equalIn 10000 59 (.agg #[.int .i64 xs.1, .int .i64 xs.2]) (.agg #[.int .i64 sK, .int .i64 (cK0 : Int)])).run Tryz.prog wx = .ok false wx := fun wx => by
                        have h := Tryz.spotEq xs (sK, (cK0 : Int)) wx
                        rw [decide_eq_false (hne e)] at h
                        exact h
                      have HTN := Lib.hid (show tv = (if ik < s + 1 then (ik : Int) else -1) by
                        rw [HTV.out]
                        by_cases h : ik < s
                        · rw [if_pos h, if_pos (by omega)]
                        · rw [if_neg h, if_neg (by omega)])
                      clear hne heq e
                      go_wp2_with fail
                      go_quiet (fail)
                      have HEX := Lib.hid (HEq.out.trans (below_drewN (Ext.refl _) nq))
                      clear hEQ c0 c1 g0 cK cC
                      go_wp2_with fail
                      go_roundg (gk - 1)
                      case measure => have := HGS.out; omega
                      case rel => exact ⟨s + 1, _, by have := HGS.out; omega, by go_num, rfl, HTN.out, HEX.out⟩
                  · have hsN : s = NX := by have := HGS.out; omega
                    have hsI : ¬ (s : Int) < (NX : Int) := by omega
                    have htv : tv = (ik : Int) := by rw [HTV.out, if_pos (by omega)]
                    rw [htv]
                    have hik0 : decide ((ik : Int) < 0) = false := decide_eq_false (by omega)
                    have hgb := blk_ext (blk_ext HBG5.out HEo.out) HEq.out
                    have g1 := blk_cell hgb (i := 1) rfl
                    have g2 := blk_cell hgb (i := 2) rfl
                    clear hgb cK cC
                    have hz0 : ¬ i = 0 := by omega
                    have hzi : ((i : Int) == 0) = false := by rw [beq_eq_false_iff_ne]; omega
                    have hpos : decide ((0 : Int) < (i : Int)) = true := decide_eq_true (by omega)
                    obtain ⟨ia, hia⟩ : ∃ ia, id (i - 1) = ia := ⟨_, rfl⟩
                    have hav : av' = (ia : Int) := by rw [← hia]; exact HAV1.out (i - 1) (by omega) (by omega)
                    have hedge := HED.out (i - 1) (by have := HNN.out; omega)
                    unfold nxt at hedge
                    rw [if_neg (by have := HNN.out; omega), hia, HIK.out] at hedge
                    obtain ⟨l, hl, hmm⟩ := hedge
                    obtain ⟨hia2, hla⟩ := List.getElem?_eq_some_iff.1 hl
                    obtain ⟨-, hc1, hc2, bL, oL, y1, y2⟩ := HLI5.out.cells
                    obtain rfl := y1 (by omega)
                    obtain ⟨aL, cL, cz, hil⟩ := y2 ia hia2
                    rw [hla] at cz hil
                    obtain ⟨_, _, el, hrl⟩ := hil
                    simp only [Value.slice.injEq, true_and] at el
                    obtain ⟨rfl, rfl⟩ := el
                    obtain ⟨bl, ol, z1, z2⟩ := ints_cells hrl
                    obtain rfl := z1 (List.length_pos_of_mem hmm)
                    obtain ⟨n4, hn4⟩ : ∃ x, l.length = x := ⟨_, rfl⟩
                    have HN4 := Lib.hid hn4
                    have hr1 := hrl.le
                    have hr2 := hrl.max
                    rw [hn4] at cz hr1
                    have HCZ := Lib.hid (cell_later HEo.out cz)
                    have HZ2 := Lib.hid fun (j : Nat) (hj : j < l.length) => cell_later HEo.out (z2 j hj)
                    have HMM := Lib.hid hmm
                    have hiaI : (ia : Int) < (L.length : Int) := by omega
                    have hia0 : (0 : Int) ≤ (ia : Int) := by omega
                    rw [hav]
                    unfold maxLen at hc2 hr2
                    clear hia hav hl hia2 hla y2 cz hrl z1 z2 hn4 hmm
                    go_wp2_with fail
                    clear g0 g1 g2
                    go_loopg [27, 26] n4 (fun g x y wq3 => ∃ (q : Nat) (b : Bool), g + q = n4 ∧ x = .int .i64 (q : Int) ∧ y = .bool b ∧ (b = true ↔ ∃ r, r < q ∧ l[r]? = some (ik : Int)) ∧ Ext wq wq3)
                    case atStart => exact ⟨0, false, by omega, by go_num, rfl, ⟨(fun h => by cases h), fun ⟨r, hr, _⟩ => by omega⟩, HEq.out⟩
                    case round =>
                      obtain ⟨q, b, hgq, rfl, rfl, hb, hE⟩ := hrel
                      have HGQ := Lib.hid hgq
                      have HBQ := Lib.hid hb
                      have HEz := Lib.hid hE
                      have g2 := blk_cell (blk_ext (blk_ext HBG5.out HEo.out) hE) (i := 2) rfl
                      have cz := cell_later hE HCZ.out
                      clear hgq hb hE
                      by_cases hq : q < n4
                      · have hql : q < l.length := by have := HN4.out; omega
                        have cq := cell_later HEz.out (HZ2.out q hql)
                        have HGX := Lib.hid (show l[q]? = some l[q] from List.getElem?_eq_getElem hql)
                        generalize l[q] = y at *
                        have hqI : (q : Int) < (n4 : Int) := by omega
                        have hq0 : (0 : Int) ≤ (q : Int) := by omega
                        obtain ⟨e2, he2⟩ : ∃ e2, (y == (ik : Int)) = e2 := ⟨_, rfl⟩
                        have HBN := Lib.hid (show (b || e2) = true ↔ ∃ r, r < q + 1 ∧ l[r]? = some (ik : Int) from by
                          rw [Bool.or_eq_true, HBQ.out, ← he2, beq_iff_eq]
                          constructor
                          · rintro (⟨r, h1, h2⟩ | h1)
                            · exact ⟨r, by omega, h2⟩
                            · subst h1; exact ⟨q, by omega, HGX.out⟩
                          · rintro ⟨r, h1, h2⟩
                            by_cases er : r = q
                            · subst er
                              rw [HGX.out] at h2
                              exact .inr (Option.some.inj h2)
                            · exact .inl ⟨r, by omega, h2⟩)
                        clear hql
                        cases b
                        all_goals cases e2
                        all_goals
                          go_wp2_with fail
                          go_roundg (gk - 1)
                          case measure => have := HGQ.out; omega
                          case rel => exact ⟨q + 1, _, by have := HGQ.out; omega, by go_num, rfl, HBN.out, HEz.out⟩
                      · have hqI : ¬ (q : Int) < (n4 : Int) := by omega
                        obtain rfl : b = true := HBQ.out.2 (by
                          obtain ⟨r, hr, e⟩ := List.mem_iff_getElem.1 HMM.out
                          exact ⟨r, by have := HN4.out; omega, by rw [List.getElem?_eq_getElem hr, e]⟩)
                        have HEW := Lib.hid (HEo.out.trans HEz.out)
                        go_wp2_with fail
                        go_roundg (go - 1)
                        case measure => have := HGO.out; have := HGI.out; omega
                        case rel => exact ⟨i + 1, (ik : Int), by have := HGO.out; have := HGI.out; omega, by go_num, rfl, (fun h => by omega), (fun j hj h => by omega), HEW.out⟩
            · have hiI : ¬ (i : Int) ≤ (N : Int) := by omega
              have HEL := Lib.hid (HEF.out.trans hE)
              go_wp2
              go_ret
              exact ⟨rfl, HEL.out⟩
end Go.Proofs.YtciihiiacbnimaaGreatDoor
