/- The law TopOrder. -/
import Derived.Test.YtbmimdnpchldlaaGreatDoorKtTopM2
import Derived.Deep.RegionLaw
import Derived.Deep.DeepCutAuto
namespace Go.Proofs.YtbmimdnpchldlaaGreatDoor
open Go.RowKit

set_option maxRecDepth 100000 in
set_option maxHeartbeats 16000000 in
theorem topOrder_law (cs : Array Value) (v1 : Value) (v2 : Value) (W : World) (ht : Tab W) (h0 : Cells Tryz.prog W 25 cs.toList) (h1 : Cells Tryz.prog W 26 [v1]) (h2 : Cells Tryz.prog W 3 [v2]) :
    Calls Tryz.prog 12 #[.agg cs, v1, v2] W fun e w' => e = .returned (.bool true) ∧ Ext W w' := by
  obtain ⟨d, pv, rfl, hpl, hd⟩ := design_of h0
  obtain ⟨raw, hr, hR⟩ := raw_for h1
  obtain ⟨n2, e2, i2⟩ := h2.i64 Tryz.underlying3
  cases e2
  have EE := ext_al (Ext.refl W) (Obj.cells (dnc d pv) 25)
  have HB := blk_new W (Obj.cells (dnc d pv) 25)
  have HTA := Lib.hid (task_any pv v1 d raw 3 _ (hpl.ext EE) hd (ops_ext hr EE) hR (by omega))
  have HK := Lib.hid (task_ok d raw 3 (by omega))
  have HF := fm_for raw 3
  have HY := Lib.hid fun (fv : Value) (wx : World) (hx : Ext (W.alloc (Obj.cells (dnc d pv) 25)) wx) (hf : IsT wx fv (.n0 11 0)) => tholds_b pv fv d (.n0 11 0) wx ((ht.ext EE).ext hx) ((hpl.ext EE).ext hx) hd hf fm_yes (by omega) (by omega) true (holdsB_yes _ _ _)
  obtain ⟨C, hC, hCN⟩ := fm_room d HF (by omega)
  have HTB := Lib.hid (ht.ext EE)
  have hm5 := d.drawn.five
  have hm2 := d.drawn.two
  obtain ⟨ar0, cr0, rfl, _⟩ := id hr
  generalize forO raw 3 3 = t at *
  simp only [dnc] at HTA HY HTB EE HB ⊢

  generalize d.md = m at *
  generalize raw.length = nraw at *
  have HVE := Lib.hid fun vv rv qv fv wx (hT : IsTask wx vv rv qv fv m propT t) (hb : Tab wx) => verdict_any vv rv qv fv m propT t wx hT hb HK.out C hC hCN
  have HM5 := Lib.hid hm5
  have HVG := Lib.hid fun (rs' : List Rl) (hl : rs'.length ≤ 12) (hs : ∀ r, r ∈ rs' ↔ r ∈ m.rules) vv rv qv fv wx (hT : IsTask wx vv rv qv fv ⟨m.vars, rs'⟩ propT t) (hb : Tab wx) => verdict_any vv rv qv fv ⟨m.vars, rs'⟩ propT t wx hT hb ⟨HK.out.ok.rules' hl (fun r hr => (hs r).1 hr), HK.out.v0, HK.out.pk, HK.out.ff⟩ C hC hCN
  have HRG := Lib.hid fun (rs' : List Rl) (hl : rs'.length ≤ 12) (hs : ∀ r, r ∈ rs' ↔ r ∈ m.rules) (b1 b2 : Bool) (h1 : b1 = true ↔ HoldsR m propT t) (h2 : b2 = true ↔ HoldsR ⟨m.vars, rs'⟩ propT t) => (show (b1 == b2) = true from by
    have e := same_rules HK.out.ok.toPre (HK.out.ok.rules' hl (fun r hr => (hs r).1 hr)).toPre rfl (fun c d => nextP_same (m := m) (m' := ⟨m.vars, rs'⟩) rfl hs c d) propT t
    rw [beq_iff_eq, ← holdsB_eq h1.symm, ← holdsB_eq h2.symm, e])
  obtain ⟨i21, i22⟩ := i2
  have cur := d7_of HB
  have HEE := Lib.hid EE
  clear ht hpl hd HB h0 h1 hr hR HF hC hCN EE hm5 hm2 h2
  go_enter Tryz.func12, Tryz.ntmps12
  go_wp2_with fail
  obtain ⟨dB, hdB⟩ : ∃ x, W.heap.size = x := ⟨_, rfl⟩
  rw [hdB] at cur ⊢
  clear hdB
  generalize W.alloc (Obj.cells #[.int .i64 d.s0, .int .i64 d.s1, .int .i64 d.l0, .int .i64 d.l1, .int .i64 d.i0, .int .i64 d.i1, pv] 25) = W0 at *
  refine HTA.out.mono ?_
  rintro e w1 ⟨vv, rv, qv, fv, rfl, hT1, hE1⟩
  obtain ⟨av, cv, ar, cr, ap, cp, af, nf, cf, rfl, rfl, rfl, rfl⟩ := hT1.val
  have HT1 := Lib.hid hT1
  have HE1 := Lib.hid hE1
  generalize m.vars.length = nv at *
  generalize hnr : m.rules.length = nr at *
  have HNR := Lib.hid hnr
  clear hnr
  generalize propT.length = np at *
  have hx1 := ext_al (Ext.refl w1) (Obj.cells #[.slice av nv cv, .slice ar nr cr, .slice ap np cp, .slice af nf cf] 35)
  have HX1 := Lib.hid hx1
  have HBT1 := Lib.hid (blk_new w1 (Obj.cells #[.slice av nv cv, .slice ar nr cr, .slice ap np cp, .slice af nf cf] 35))
  have q0 := blk_cell HBT1.out (i := 0) rfl
  have q1 := blk_cell HBT1.out (i := 1) rfl
  have q2 := blk_cell HBT1.out (i := 2) rfl
  have q3 := blk_cell HBT1.out (i := 3) rfl
  clear hT1 hE1 hx1 HTA
  go_wp2_with fail
  obtain ⟨tB, htB⟩ : ∃ x, w1.heap.size = x := ⟨_, rfl⟩
  rw [htB] at HBT1 q0 q1 q2 q3 ⊢
  clear htB
  generalize w1.alloc (Obj.cells #[.slice av nv cv, .slice ar nr cr, .slice ap np cp, .slice af nf cf] 35) = W1 at *
  refine (HVE.out _ _ _ _ _ (HT1.out.ext HX1.out) (HTB.out.ext (HE1.out.trans HX1.out))).mono ?_
  unfold VerR
  rintro e w2 ⟨b1, a5, n5, c5, a6, n6, c6, rfl, hb5, hE2⟩
  clear q0 q1 q2 q3
  have hx2 := ext_al (Ext.refl w2) (Obj.cells #[.bool b1, .slice a5 n5 c5, .slice a6 n6 c6] 81)
  have HBB := Lib.hid hb5
  have HBT2 := Lib.hid (blk_ext HBT1.out (hE2.trans hx2))
  have HBV2 := Lib.hid (blk_new w2 (Obj.cells #[.bool b1, .slice a5 n5 c5, .slice a6 n6 c6] 81))
  have HE2 := Lib.hid (HE1.out.trans (HX1.out.trans (hE2.trans hx2)))
  have HE12 := Lib.hid (HX1.out.trans (hE2.trans hx2))
  have q0 := blk_cell HBT2.out (i := 0) rfl
  have q1 := blk_cell HBT2.out (i := 1) rfl
  have q2 := blk_cell HBT2.out (i := 2) rfl
  have q3 := blk_cell HBT2.out (i := 3) rfl
  clear hb5 hE2 hx2 HVE HX1 HBT1
  go_upto_region 3 with fail
  obtain ⟨vB, hvB⟩ : ∃ x, w2.heap.size = x := ⟨_, rfl⟩
  rw [hvB] at HBV2 ⊢
  clear hvB
  generalize w2.alloc (Obj.cells #[.bool b1, .slice a5 n5 c5, .slice a6 n6 c6] 81) = W2 at *
  go_upto_region 4 with fail
  have hx3 := ext_al (Ext.refl W2) (Obj.cells #[.slice av nv cv, .slice ar nr cr, .slice ap np cp, .slice af nf cf] 35)
  have HX3 := Lib.hid hx3
  have HBU := Lib.hid (blk_new W2 (Obj.cells #[.slice av nv cv, .slice ar nr cr, .slice ap np cp, .slice af nf cf] 35))
  have HBT := Lib.hid (blk_ext HBT2.out hx3)
  clear q0 q1 q2 q3 hx3
  obtain ⟨uB, huB⟩ : ∃ x, W2.heap.size = x := ⟨_, rfl⟩
  have HUB := Lib.hid huB
  rw [huB] at HBU ⊢
  clear huB
  have hz3 : (W2.alloc (Obj.cells #[.slice av nv cv, .slice ar nr cr, .slice ap np cp, .slice af nf cf] 35)).heap.size = uB + 1 := by rw [World.size_alloc, HUB.out]
  generalize W2.alloc (Obj.cells #[.slice av nv cv, .slice ar nr cr, .slice ap np cp, .slice af nf cf] 35) = W3 at *
  have HZ3 := Lib.hid hz3
  clear hz3
  have hn5 := HM5.out
  have HM2 := Lib.hid (HT1.out.md.rules.ext HE12.out)
  obtain ⟨ar', cr', e0, _, br, or, p1, p2⟩ := HM2.out.at
  rw [HNR.out] at e0 p1
  simp only [Value.slice.injEq, true_and] at e0
  obtain ⟨rfl, rfl⟩ := e0
  have HP1 := Lib.hid p1
  have HP2 := Lib.hid p2
  clear p1 p2
  have hz3 := HZ3.out
  obtain ⟨n, hn⟩ : ∃ x, nr = x := ⟨_, rfl⟩
  have u1 := blk_cell HBU.out (i := 1) rfl
  have f1 := blk_free HBU.out 1
  have hbu4 := blk_set (i := 1) HBU.out (.slice none 0 0)
  rw [(set4 _ _ _ _ _).2.1] at hbu4
  have HBU4 := Lib.hid hbu4
  have HE4 := Lib.hid (ext_st HX3.out (p := ⟨uB, 1, none⟩) (by show W2.heap.size ≤ uB; rw [HUB.out]; exact Nat.le_refl _) (.slice none 0 0))
  have hbt4 := blk_ext HBT2.out HE4.out
  have m1 := blk_cell hbt4 (i := 1) rfl
  clear hbu4 hbt4 hz3 hn
  go_upto_region 5 with fail
  generalize W3.setCell ⟨uB, 1, none⟩ (.slice none 0 0) = W4 at *
  clear u1 f1
  obtain ⟨rs, hrs⟩ : ∃ rs, m.rules = rs := ⟨_, rfl⟩
  have HRN := Lib.hid (show rs.length = nr by rw [← hrs]; exact HNR.out)
  rw [hrs] at HP2 HVG HRG
  have HRS := Lib.hid hrs
  obtain ⟨n, rfl⟩ : ∃ x, x = nr := ⟨_, rfl⟩
  have HP3 := Lib.hid fun (i : Nat) (hi : i < rs.length) => HP2.out i hi
  have HVR := Lib.hid HT1.out.md.vars
  clear hrs HP2 HNR
  have HO4 := Lib.hid (show W4.ownsRow (uB + 1) 86 2 (.slice none 0 0) 0 [] from World.ownsRow_nil _ _ _ _)
  go_wp2_with fail
  clear m1
  go_loopg [11] n (fun kk s wr => ∃ (i : Int) (a : Option Addr) (cc : Nat) (css : List (List Value)), i + 1 = (kk : Int) ∧ kk ≤ n ∧ s = .int .i64 i ∧ css.length = n - kk ∧ (∀ cs ∈ css, cs.length = 2) ∧
    (∀ (j : Nat) (cs : List Value) (r : Rl), css[j]? = some cs → rs.reverse[j]? = some r → RuleE W2 r cs) ∧ Ext W2 wr ∧ wr.heap[uB]? = some (.cells #[.slice av nv cv, .slice a css.length cc, .slice ap np cp, .slice af nf cf] 35 (0, 0)) ∧
    wr.ownsRow (uB + 1) 86 2 (.slice a css.length cc) css.length css.flatten)
  case atStart => exact ⟨(n : Int) - 1, none, 0, [], by omega, Nat.le_refl _, rfl, by simp, by simp, by simp, HE4.out, HBU4.out, HO4.out⟩
  case round =>
    obtain ⟨i, a, cc, css, hik, hkn, rfl, hcl, hc2, hcE, hE, hXb, hO⟩ := hrel
    clear HE4 HBU4 HO4
    have HCL := Lib.hid hcl
    have HC2 := Lib.hid hc2
    have HCE := Lib.hid hcE
    have HXE := Lib.hid hE
    have HXB := Lib.hid hXb
    have HO := Lib.hid hO
    have hwr := hE.size
    have hxl := blk_lt hXb
    have hub := HUB.out
    by_cases hi : 0 ≤ i
    · obtain ⟨q, rfl⟩ : ∃ q : Nat, i = (q : Int) := ⟨i.toNat, by omega⟩
      obtain rfl : gk = q + 1 := by omega
      have hqn : q < rs.length := by have := HRN.out; omega
      obtain rfl := HP1.out (by omega)
      obtain ⟨g, s, e1, e2, hg, hs⟩ := HP3.out q hqn
      have c0 := cell_later hE e1
      have c1 := cell_later hE e2
      have hRE : RuleE W2 rs[q] [g, s] := ⟨g, s, rfl, hg, hs⟩
      have HREV := Lib.hid (show rs.reverse[css.length]? = some rs[q] from by
        have hl := HRN.out
        have hlt : css.length < rs.reverse.length := by rw [List.length_reverse]; omega
        rw [List.getElem?_eq_getElem hlt, List.getElem_reverse]
        congr 2
        omega)
      have HRE := Lib.hid hRE
      obtain ⟨ag, ng, cg, rfl⟩ := hg.val
      obtain ⟨asl, csl, rfl⟩ := EachL.val hs
      generalize rs[q].sets.length = nss at *
      have x1 := blk_cell hXb (i := 1) rfl
      have m1 := blk_cell (blk_ext HBT2.out hE) (i := 1) rfl
      have HX6 := Lib.hid fun (o : Obj) => blk_ext hXb (Below.drew (ext_al (Ext.refl wr) o))
      have HO6 := Lib.hid fun (o : Obj) => own_ext hO (Below.drew (ext_al (Ext.refl wr) o))
      have HE6 := Lib.hid fun (o : Obj) => Ext.trans hE (Below.drew (ext_al (Ext.refl wr) o))
      have x1a : (wr.alloc (Obj.cells #[.slice ag ng cg, .slice asl nss csl] 86)).cell? ⟨uB, 1, none⟩ = some (.slice a css.length cc) := blk_cell (blk_ext hXb (ext_al (Ext.refl wr) _)) rfl
      have hc5 : css.length ≤ 5 := by omega
      have hqI : (q : Int) < (n : Int) := by omega
      have hq0 : (0 : Int) ≤ (q : Int) := by omega
      clear hik hcl hc2 hcE hE hXb hO hg hs e1 e2 hRE
      obtain ⟨nc, hnc⟩ : ∃ nc, css.length = nc := ⟨_, rfl⟩
      rw [hnc] at HCL HREV HXB HO x1 HX6 HO6 x1a hc5
      have HNC := Lib.hid hnc
      clear hnc
      go_upto_region 8 with fail
      go_region_law (refine step_append rfl rfl Tryz.slRules (uB + 1) (by rfl) (HO6.out _) (by rfl) ((Row.newK _ _ 2 _ _ rfl rfl).ext (Below.drew (Ext.refl _))) (by intro u hu; simp only [List.mem_cons, List.not_mem_nil, or_false] at hu; rcases hu with rfl | rfl <;> rfl) (by unfold maxLen; omega) (by omega) (by simp; omega) ?_
                     intro v6 w6 hown6 hg6 hb6 _
                     obtain ⟨a6, c6, rfl, _⟩ := hown6.row
                     have hx6 := blk_grown (HX6.out _) hg6 (fun e => by have h : uB + 1 ≤ uB := ((HO6.out (Obj.cells #[] 0)).lt _ e.symm).1; omega)
                     have x16 := blk_cell hx6 (i := 1) rfl
                     have fx16 := blk_free hx6 1
                     have HXX6 := Lib.hid hx6
                     have HEE6 := Lib.hid (show Ext W2 w6 from Below.grown (HE6.out _) hg6 (HE6.out _).size (fun b hb => by have := ((HO6.out (Obj.cells #[] 0)).lt b hb).1; omega))
                     have HOO6 := Lib.hid hown6
                     clear hx6 hown6 hg6 hb6)
      all_goals
        have hxx7 := blk_set HXX6.out (i := 1) (.slice a6 (nc + 1) c6)
        rw [(set4 _ _ _ _ _).2.1] at hxx7
        have HXX7 := Lib.hid hxx7
        have HEE7 := Lib.hid (ext_st HEE6.out (p := ⟨uB, 1, none⟩) (by show W2.heap.size ≤ uB; omega) (.slice a6 (nc + 1) c6))
        have HOO7 := Lib.hid (own_setCell HOO6.out (p := ⟨uB, 1, none⟩) (.slice a6 (nc + 1) c6) (fun e => by have h : uB + 1 ≤ uB := (HOO6.out.lt _ e).1; omega))
        clear x1 m1 x1a c0 c1 HX6 HO6 HE6 x16 fx16 HXX6 HEE6 HOO6 HXE HXB HO hxx7
        generalize w6.setCell ⟨uB, 1, none⟩ (.slice a6 (nc + 1) c6) = w7 at *
        go_wp2_with fail
        go_roundg q
        case measure => omega
        case rel => exact ⟨(q : Int) - 1, a6, c6, css ++ [[.slice ag ng cg, .slice asl nss csl]], by omega, by omega, rfl, by
            rw [List.length_append, HNC.out]
            have := HCL.out
            simp; omega, by
            intro cs hcs
            rcases List.mem_append.1 hcs with h | h
            · exact HC2.out cs h
            · simp at h; subst h; rfl, by
            intro j cs r h1 h2
            by_cases hj : j < css.length
            · rw [List.getElem?_append_left hj] at h1
              exact HCE.out j cs r h1 h2
            · rw [List.getElem?_append_right (by omega)] at h1
              have e0 : j = css.length := by have := (List.getElem?_eq_some_iff.1 h1).1; simp at this; omega
              subst e0
              rw [HNC.out, HREV.out] at h2
              simp at h1 h2
              subst h1; subst h2
              exact HRE.out, HEE7.out, by rw [List.length_append, HNC.out]; exact HXX7.out, by
            rw [List.length_append, HNC.out, List.flatten_append]
            exact HOO7.out⟩
    · have hgk : gk = 0 := by omega
      have hcn : css.length = n := by omega
      have hiN : i < 0 := by omega
      subst hgk
      have m1 := blk_cell (blk_ext HBT2.out hE) (i := 1) rfl
      clear hik hkn hcl hc2 hcE hE hXb hO
      rw [hcn] at HXB HO
      have HCN := Lib.hid hcn
      clear hcn
      by_cases hn0 : 0 < n
      · have hn0I : (0 : Int) < (n : Int) := by omega
        have HPK := Lib.hid fun wx => kpicked_any n2 n wx i21 i22 (by omega) (by omega)
        have hbq := pk_bd n2 n (by omega)
        obtain ⟨q, hq⟩ : ∃ q : Nat, pk n2 n = (q : Int) := ⟨(pk n2 n).toNat, by omega⟩
        rw [hq] at HPK hbq
        clear hq
        have hqn : q < rs.length := by have := HRN.out; omega
        obtain rfl := HP1.out hn0
        obtain ⟨g, s, e1, e2, hg, hs⟩ := HP3.out q hqn
        have c0 := cell_later HXE.out e1
        have c1 := cell_later HXE.out e2
        have HRE := Lib.hid (show RuleE W2 rs[q] [g, s] from ⟨g, s, rfl, hg, hs⟩)
        obtain ⟨ag, ng, cg, rfl⟩ := hg.val
        obtain ⟨asl, csl, rfl⟩ := EachL.val hs
        generalize rs[q].sets.length = nss at *
        have x1 := blk_cell HXB.out (i := 1) rfl
        have HX6 := Lib.hid fun (o : Obj) => blk_ext HXB.out (Below.drew (ext_al (Ext.refl wr) o))
        have HO6 := Lib.hid fun (o : Obj) => own_ext HO.out (Below.drew (ext_al (Ext.refl wr) o))
        have HE6 := Lib.hid fun (o : Obj) => Ext.trans HXE.out (Below.drew (ext_al (Ext.refl wr) o))
        have x1a : (wr.alloc (Obj.cells #[.slice ag ng cg, .slice asl nss csl] 86)).cell? ⟨uB, 1, none⟩ = some (.slice a n cc) := blk_cell (blk_ext HXB.out (ext_al (Ext.refl wr) _)) rfl
        have hqI : (q : Int) < (n : Int) := by omega
        have hq0 : (0 : Int) ≤ (q : Int) := by omega
        clear hg hs e1 e2
        go_upto_region 10 with fail
        go_cut [] (fun wx => ∃ a6 c6, Ext W2 wx ∧ wx.heap[uB]? = some (.cells #[.slice av nv cv, .slice a6 (n + 1) c6, .slice ap np cp, .slice af nf cf] 35 (0, 0)) ∧ wx.ownsRow (uB + 1) 86 2 (.slice a6 (n + 1) c6) (n + 1) (css.flatten ++ [.slice ag ng cg, .slice asl nss csl]))
        case first =>
          go_region_law (first
            | (refine step_append rfl rfl Tryz.slRules (uB + 1) (by rfl) (HO6.out _) (by rfl) ((Row.newK _ _ 2 _ _ rfl rfl).ext (Below.drew (Ext.refl _))) (by intro u hu; simp only [List.mem_cons, List.not_mem_nil, or_false] at hu; rcases hu with rfl | rfl <;> rfl) (by unfold maxLen; omega) (by omega) (by simp; omega) ?_
               intro v6 w6 hown6 hg6 hb6 _
               obtain ⟨a6, c6, rfl, _⟩ := hown6.row
               have hx6 := blk_grown (HX6.out _) hg6 (fun e => by have h : uB + 1 ≤ uB := ((HO6.out (Obj.cells #[] 0)).lt _ e.symm).1; omega)
               have x16 := blk_cell hx6 (i := 1) rfl
               have fx16 := blk_free hx6 1
               have HXX6 := Lib.hid hx6
               have HEE6 := Lib.hid (show Ext W2 w6 from Below.grown (HE6.out _) hg6 (HE6.out _).size (fun b hb => by have := ((HO6.out (Obj.cells #[] 0)).lt b hb).1; omega))
               have HOO6 := Lib.hid hown6
               clear hx6 hown6 hg6 hb6)
            | (go_simp
               go_at_call 31
               refine (HPK.out _).mono ?_
               rintro e wq ⟨rfl, rfl⟩))
          all_goals
            have hxx7 := blk_set HXX6.out (i := 1) (.slice a6 (n + 1) c6)
            rw [(set4 _ _ _ _ _).2.1] at hxx7
            go_wp2_with fail
            go_meet
            exact ⟨a6, c6, ext_st HEE6.out (p := ⟨uB, 1, none⟩) (by show W2.heap.size ≤ uB; omega) _, hxx7, own_setCell HOO6.out (p := ⟨uB, 1, none⟩) _ (fun e => by have h : uB + 1 ≤ uB := (HOO6.out.lt _ e).1; omega)⟩
        case rest =>
          obtain ⟨a6, c6, hE, hXb, hO⟩ := hcut
          have HIR := Lib.hid (show IsRules wc (.slice a6 (n + 1) c6) (rs.reverse ++ [rs[q]]) from by
            have hl : (rs.reverse ++ [rs[q]]).length = n + 1 := by have := HRN.out; simp; omega
            refine rules_more (l := rs.reverse) (r := rs[q]) (css := css) (cs := [.slice ag ng cg, .slice asl nss csl]) (by rw [List.length_reverse, HRN.out]; exact HCN.out) (by rw [List.length_reverse, HRN.out]) HC2.out rfl hO.reads (fun j cs r h1 h2 => (HCE.out j cs r h1 h2).ext hE) (HRE.out.ext hE))
          have HSM := Lib.hid (show (rs.reverse ++ [rs[q]]).length ≤ 12 ∧ ∀ r, r ∈ rs.reverse ++ [rs[q]] ↔ r ∈ rs from ⟨by have := HRN.out; simp; omega, fun r => by
            simp only [List.mem_append, List.mem_reverse, List.mem_singleton]
            constructor
            · rintro (h | rfl)
              · exact h
              · simp
            · exact .inl⟩)
          clear m1 c0 c1 x1a x1 HPK HX6 HO6 HE6
          generalize rs.reverse ++ [rs[q]] = RX at *
          have HV2 := Lib.hid (HVG.out RX HSM.out.1 HSM.out.2)
          have HRR := Lib.hid (HRG.out RX HSM.out.1 HSM.out.2)
          have HTU := Lib.hid (show IsTask wc (.slice av nv cv) (.slice a6 (n + 1) c6) (.slice ap np cp) (.slice af nf cf) ⟨m.vars, RX⟩ propT t from
            ⟨⟨HVR.out.ext (HE12.out.trans hE), HIR.out⟩, HT1.out.pr.ext (HE12.out.trans hE), HT1.out.fo.ext (HE12.out.trans hE)⟩)
          have HE7 := Lib.hid (HE2.out.trans hE)
          have HBV7 := Lib.hid (blk_ext HBV2.out hE)
          have u0 := blk_cell hXb (i := 0) rfl
          have u1 := blk_cell hXb (i := 1) rfl
          have u2 := blk_cell hXb (i := 2) rfl
          have u3 := blk_cell hXb (i := 3) rfl
          clear hE hXb hO HVG HRG HIR
          go_wp2_with fail
          refine (HV2.out _ _ _ _ _ HTU.out (HTB.out.ext HE7.out)).mono ?_
          unfold VerR
          rintro e w8 ⟨b2, a7, n7, c7, a8, n8, c8, rfl, hb8, hE8⟩
          have hx8 := ext_al (Ext.refl w8) (Obj.cells #[.bool b2, .slice a7 n7 c7, .slice a8 n8 c8] 81)
          have HBW := Lib.hid (blk_new w8 (Obj.cells #[.bool b2, .slice a7 n7 c7, .slice a8 n8 c8] 81))
          have HBB2 := Lib.hid hb8
          have HE8 := Lib.hid (HE7.out.trans (hE8.trans hx8))
          have HBV8 := Lib.hid (blk_ext HBV7.out (hE8.trans hx8))
          have cur8 := d7_later HE8.out cur
          obtain ⟨q0, q1, q2, q3, q4, q5, q6⟩ := id cur8
          clear hb8 hE8 hx8 u0 u1 u2 u3
          go_upto_region 12 with fail
          obtain ⟨xB, hxB⟩ : ∃ x, w8.heap.size = x := ⟨_, rfl⟩
          rw [hxB] at HBW ⊢
          clear hxB
          generalize w8.alloc (Obj.cells #[.bool b2, .slice a7 n7 c7, .slice a8 n8 c8] 81) = W8 at *
          have hx9 := ext_al (Ext.refl W8) (Obj.cells #[.int .i64 11, .int .i64 0] 75)
          go_wp2_with fail
          refine (HY.out _ _ (HE8.out.trans hx9) (isT_lit W8 75 11 0 _ rfl)).mono ?_
          rintro e wA ⟨rfl, hEA⟩
          clear q0 q1 q2 q3 q4 q5 q6 cur cur8
          have g0 := blk_cell (blk_ext HBV8.out (hx9.trans hEA)) (i := 0) rfl
          have g1 := blk_cell (blk_ext HBW.out (hx9.trans hEA)) (i := 0) rfl
          have HEF := Lib.hid (HEE.out.trans (HE8.out.trans (hx9.trans hEA)))
          have RR := Lib.hid (HRR.out b1 b2 HBB.out HBB2.out)
          clear hx9 hEA HBB HBB2
          cases b1
          all_goals cases b2
          all_goals (try (exact absurd RR.out (by decide)))
          all_goals
            go_wp2
            go_ret
            exact ⟨rfl, HEF.out⟩
      · have hn0I : ¬ (0 : Int) < (n : Int) := by omega
        have hnz : n = 0 := by omega
        have HIR := Lib.hid (show IsRules wr (.slice a n cc) rs.reverse from by
          have hl : rs.reverse.length = n := by have := HRN.out; simp; omega
          refine ⟨css, by rw [hl]; exact HCN.out, HC2.out, by rw [hl]; exact HO.out.reads, fun j cs r h1 h2 => (HCE.out j cs r h1 h2).ext HXE.out⟩)
        have HSM := Lib.hid (show rs.reverse.length ≤ 12 ∧ ∀ r, r ∈ rs.reverse ↔ r ∈ rs from ⟨by have := HRN.out; simp; omega, fun r => List.mem_reverse⟩)
        generalize rs.reverse = RX at *
        have HV2 := Lib.hid (HVG.out RX HSM.out.1 HSM.out.2)
        have HRR := Lib.hid (HRG.out RX HSM.out.1 HSM.out.2)
        have hE := HXE.out
        have hXb := HXB.out
        have HTU := Lib.hid (show IsTask wr (.slice av nv cv) (.slice a n cc) (.slice ap np cp) (.slice af nf cf) ⟨m.vars, RX⟩ propT t from
          ⟨⟨HVR.out.ext (HE12.out.trans hE), HIR.out⟩, HT1.out.pr.ext (HE12.out.trans hE), HT1.out.fo.ext (HE12.out.trans hE)⟩)
        have HE7 := Lib.hid (HE2.out.trans hE)
        have HBV7 := Lib.hid (blk_ext HBV2.out hE)
        have u0 := blk_cell hXb (i := 0) rfl
        have u1 := blk_cell hXb (i := 1) rfl
        have u2 := blk_cell hXb (i := 2) rfl
        have u3 := blk_cell hXb (i := 3) rfl
        clear hE hXb HO HXB HXE HVG HRG HIR hnz
        go_wp2_with fail
        refine (HV2.out _ _ _ _ _ HTU.out (HTB.out.ext HE7.out)).mono ?_
        unfold VerR
        rintro e w8 ⟨b2, a7, n7, c7, a8, n8, c8, rfl, hb8, hE8⟩
        have hx8 := ext_al (Ext.refl w8) (Obj.cells #[.bool b2, .slice a7 n7 c7, .slice a8 n8 c8] 81)
        have HBW := Lib.hid (blk_new w8 (Obj.cells #[.bool b2, .slice a7 n7 c7, .slice a8 n8 c8] 81))
        have HBB2 := Lib.hid hb8
        have HE8 := Lib.hid (HE7.out.trans (hE8.trans hx8))
        have HBV8 := Lib.hid (blk_ext HBV7.out (hE8.trans hx8))
        have cur8 := d7_later HE8.out cur
        obtain ⟨q0, q1, q2, q3, q4, q5, q6⟩ := id cur8
        clear hb8 hE8 hx8 u0 u1 u2 u3
        go_upto_region 12 with fail
        obtain ⟨xB, hxB⟩ : ∃ x, w8.heap.size = x := ⟨_, rfl⟩
        rw [hxB] at HBW ⊢
        clear hxB
        generalize w8.alloc (Obj.cells #[.bool b2, .slice a7 n7 c7, .slice a8 n8 c8] 81) = W8 at *
        have hx9 := ext_al (Ext.refl W8) (Obj.cells #[.int .i64 11, .int .i64 0] 75)
        go_wp2_with fail
        refine (HY.out _ _ (HE8.out.trans hx9) (isT_lit W8 75 11 0 _ rfl)).mono ?_
        rintro e wA ⟨rfl, hEA⟩
        clear q0 q1 q2 q3 q4 q5 q6 cur cur8
        have g0 := blk_cell (blk_ext HBV8.out (hx9.trans hEA)) (i := 0) rfl
        have g1 := blk_cell (blk_ext HBW.out (hx9.trans hEA)) (i := 0) rfl
        have HEF := Lib.hid (HEE.out.trans (HE8.out.trans (hx9.trans hEA)))
        have RR := Lib.hid (HRR.out b1 b2 HBB.out HBB2.out)
        clear hx9 hEA HBB HBB2
        cases b1
        all_goals cases b2
        all_goals (try (exact absurd RR.out (by decide)))
        all_goals
          go_wp2
          go_ret
          exact ⟨rfl, HEF.out⟩

end Go.Proofs.YtbmimdnpchldlaaGreatDoor
