/- The law TopReach. -/
import Derived.Test.YtbmimdnpchldlaaDoorKd10
import Derived.Test.YtbmimdnpchldlaaDoorKd16
import Derived.Test.YtbmimdnpchldlaaDoorKd20
import Derived.Test.YtbmimdnpchldlaaDoorKd29
import Derived.Test.YtbmimdnpchldlaaDoorKd30
import Derived.Test.YtbmimdnpchldlaaDoorKd31
import Derived.Test.YtbmimdnpchldlaaDoorKd32
import Derived.Test.YtbmimdnpchldlaaDoorKd33
import Derived.Deep.DeepCutAuto
namespace Go.Proofs.YtbmimdnpchldlaaDoor
open Go.RowKit

theorem fm_noo : Fm (.n0 12 0) 1 0 := ⟨⟨by omega, by omega, by decide⟩, fun o ho => by
  simp only [Tm.flat, List.mem_singleton] at ho
  subst ho
  exact ⟨by simp, by simp, fun h => by simp at h, fun _ => rfl⟩, Nat.le_refl _, by simp [Tm.flat, cntA, aheadB]⟩
theorem fmt_task (d : Dn) {t : Tm} {a c : Nat} (h : Fm t a c) (ha : a ≤ 60) (hc : c ≤ 6) : TkOk d.md propT t :=
  ⟨d.drawn.ok, by rw [d.drawn.two]; omega, by rw [d.drawn.two]; exact propT_ok, h.isF ha hc⟩
theorem fmt_room (d : Dn) : ∃ C : Nat, countL d.md.vars = (C : Int) ∧ ∀ n, n ≤ 6 → C * 2 ^ n ≤ 20000 := by
  have h1 := d.drawn.n1
  have h16 := d.drawn.n16
  refine ⟨(countL d.md.vars).toNat, by omega, fun n hn => ?_⟩
  have h2 : (countL d.md.vars).toNat ≤ 16 := by omega
  have h3 := Nat.pow_le_pow_right (n := 2) (by omega) hn
  exact Nat.le_trans (Nat.mul_le_mul h2 h3) (by decide)
theorem dn7_of {w : World} {g : Nat} {a b c d e f k : Value} {T : TypeId} (h : w.heap[g]? = some (.cells #[a, b, c, d, e, f, k] T (0, 0))) :
    w.cell? ⟨g, 0, none⟩ = some a ∧ w.cell? ⟨g, 1, none⟩ = some b ∧ w.cell? ⟨g, 2, none⟩ = some c ∧ w.cell? ⟨g, 3, none⟩ = some d ∧ w.cell? ⟨g, 4, none⟩ = some e ∧ w.cell? ⟨g, 5, none⟩ = some f ∧ w.cell? ⟨g, 6, none⟩ = some k :=
  ⟨blk_cell h rfl, blk_cell h rfl, blk_cell h rfl, blk_cell h rfl, blk_cell h rfl, blk_cell h rfl, blk_cell h rfl⟩
theorem ht_step {P : Program} {ops : Array Oper} {w : World} {Q : Act → Prop} {a : Act} {o : Oper} {rest : List Oper}
    (h : ∀ K : Act → Prop, (∀ a, Shut (wpStill P ops w Q rest a) → K a) → if Region.wanted o (yielded ops a.tmps) then o.still P a w K else K (a.put o.dst undef)) : Shut (wpStill P ops w Q (o :: rest) a) :=
  ⟨wpStill_step fun K hK => h K fun a ha => hK a ha.out⟩
theorem ht_nil {P : Program} {ops : Array Oper} {w : World} {Q : Act → Prop} {a : Act} (h : Q a) : Shut (wpStill P ops w Q [] a) := ⟨wpStill_nil h⟩

theorem tr_row {w : World} {b n sz : Nat} {cs : Array Value} {T : TypeId} (h : w.heap[b]? = some (.cells cs T (0, 0))) (hl : cs.size = n * sz) (hm : n ≤ maxLen) : Row w sz (some ⟨b, 0, none⟩) n n cs.toList :=
  ⟨by simpa using hl, Nat.le_refl _, hm, b, 0, (by intro h; cases h), fun _ => rfl, fun j u hu => by
    rw [Nat.zero_add]
    exact blk_cell h (by simpa using hu)⟩

set_option maxRecDepth 100000 in
set_option maxHeartbeats 16000000 in
theorem topReach_law (cs : Array Value) (v1 : Value) (W : World) (ht : Tab W) (h0 : Cells Tryd.prog W 25 cs.toList) (h1 : Cells Tryd.prog W 26 [v1]) :
    Calls Tryd.prog 3 #[.agg cs, v1] W fun e w' => e = .returned (.bool true) ∧ Ext W w' := by
  obtain ⟨d, pv, rfl, hpl, hd⟩ := design_of h0
  obtain ⟨raw, hr, hR⟩ := raw_for h1
  have EE := ext_al (Ext.refl W) (Obj.cells (dnc d pv) 25)
  have HB := blk_new W (Obj.cells (dnc d pv) 25)
  have HTA := Lib.hid (task_any pv v1 d raw 2 _ (hpl.ext EE) hd (ops_ext hr EE) hR (by omega))
  have HK := Lib.hid (task_ok d raw 2 (by omega))
  have HN := Lib.hid (fmt_task d fm_noo (by omega) (by omega))
  obtain ⟨C, hC, hCN⟩ := fmt_room d
  have hc2 := (fm_for raw 2).cnt
  have HTB := Lib.hid (ht.ext EE)
  obtain ⟨ar0, cr0, rfl, _⟩ := id hr
  generalize forO raw 3 2 = t at *
  simp only [dnc] at HTA HTB EE HB ⊢
  generalize d.md = m at *
  generalize raw.length = nraw at *
  have HVE := Lib.hid fun vv rv qv fv wx (hT : IsTask wx vv rv qv fv m propT t) (hb : Tab wx) => explore_any vv rv qv fv m propT t wx hT hb HK.out C hC (hCN _ (by omega))
  have HVN := Lib.hid fun vv rv qv fv wx (hT : IsTask wx vv rv qv fv m propT (.n0 12 0)) (hb : Tab wx) => explore_any vv rv qv fv m propT (.n0 12 0) wx hT hb HN.out C hC (hCN _ (by rw [no_cnt]; omega))
  have HRE := Lib.hid fun vv rv wx (hT : IsMd wx vv rv m) (hb : Tab wx) => reach_any vv rv m wx hT hb HK.out.ok HK.out.v0
  have cur := dn7_of HB
  have HEE := Lib.hid EE
  clear ht hpl hd HB h0 h1 hr hR hC hCN EE hc2
  go_enter Tryd.func3, Tryd.ntmps3
  go_wp2_with fail
  obtain ⟨dB, hdB⟩ : ∃ x, W.heap.size = x := ⟨_, rfl⟩
  rw [hdB] at cur ⊢
  clear hdB
  generalize W.alloc (Obj.cells #[.int .i64 d.s0, .int .i64 d.s1, .int .i64 d.l0, .int .i64 d.l1, .int .i64 d.i0, .int .i64 d.i1, pv] 25) = W0 at *
  refine HTA.out.mono ?_
  rintro e w1 ⟨vv, rv, qv, fv, rfl, hT1, hE1⟩
  obtain ⟨av, cv, ar, cr, ap, cp, af, nf, cf, rfl, rfl, rfl, rfl⟩ := hT1.val
  have HT1 := Lib.hid hT1
  have HE1 := Lib.hid hE1
  generalize m.vars.length = nv at *
  generalize m.rules.length = nr at *
  generalize propT.length = np at *
  have hx1 := ext_al (Ext.refl w1) (Obj.cells #[.slice av nv cv, .slice ar nr cr, .slice ap np cp, .slice af nf cf] 34)
  have HX1 := Lib.hid hx1
  have HBT1 := Lib.hid (blk_new w1 (Obj.cells #[.slice av nv cv, .slice ar nr cr, .slice ap np cp, .slice af nf cf] 34))
  have q0 := blk_cell HBT1.out (i := 0) rfl
  have q1 := blk_cell HBT1.out (i := 1) rfl
  have q2 := blk_cell HBT1.out (i := 2) rfl
  have q3 := blk_cell HBT1.out (i := 3) rfl
  clear hT1 hE1 hx1 HTA cur
  go_wp2_with fail
  obtain ⟨tB, htB⟩ : ∃ x, w1.heap.size = x := ⟨_, rfl⟩
  rw [htB] at HBT1 q0 q1 q2 q3 ⊢
  clear htB
  generalize w1.alloc (Obj.cells #[.slice av nv cv, .slice ar nr cr, .slice ap np cp, .slice af nf cf] 34) = W1 at *
  refine (HVE.out _ _ _ _ _ (HT1.out.ext HX1.out) (HTB.out.ext (HE1.out.trans HX1.out))).mono ?_
  rintro e w2 ⟨τ, sp, nx, st, X, L, rfl, hm, hX, hE2⟩
  clear q0 q1 q2 q3
  have hsp := hm.spots
  have hli := hm.lists
  have hin := hm.ints
  obtain ⟨asp, csp, rfl, _⟩ := id hsp
  obtain ⟨ax, cx, rfl⟩ : ∃ a c, nx = .slice a L.length c := by
    obtain ⟨vs, _, a, c, e, _⟩ := hli
    exact ⟨a, c, e⟩
  obtain ⟨at', ct, rfl, _⟩ := id hin
  obtain ⟨ini, hini⟩ : ∃ k, (iX m propT t).length = k := ⟨_, rfl⟩
  obtain ⟨kA, hkA⟩ : ∃ k, cntA t.flat = k := ⟨_, rfl⟩
  have HSR := Lib.hid fun (k : Nat) (x : Sp2) (hx : X[k]? = some x) => spots_reached HK.out hX hx
  rw [hini, hkA]
  clear hini hkA
  generalize (X.map (sX m propT t)).length = ns at *
  generalize L.length = nl at *
  have hx2 := ext_al (Ext.refl w2) (Obj.cells #[.slice asp X.length csp, .int .i64 (ini : Int), .slice ax nl cx, .slice at' ns ct, .int .i64 (kA : Int)] 40)
  have HSP := Lib.hid (hsp.ext hx2)
  have HG2 := Lib.hid (blk_new w2 (Obj.cells #[.slice asp X.length csp, .int .i64 (ini : Int), .slice ax nl cx, .slice at' ns ct, .int .i64 (kA : Int)] 40))
  have HE2 := Lib.hid (HE1.out.trans (HX1.out.trans (hE2.trans hx2)))
  have HE12 := Lib.hid (HX1.out.trans (hE2.trans hx2))
  have HBT2 := Lib.hid (blk_ext HBT1.out (hE2.trans hx2))
  obtain ⟨N, hN⟩ : ∃ N, X.length = N := ⟨_, rfl⟩
  rw [hN] at HSP HG2 HE2 HE12 HBT2 ⊢
  have HXN := Lib.hid hN
  have q0 := blk_cell HBT2.out (i := 0) rfl
  have q1 := blk_cell HBT2.out (i := 1) rfl
  clear hm hX hE2 hsp hli hin hx2 HBT1 HX1 HVE hN
  go_upto_region 3 with fail
  obtain ⟨gB, hgB⟩ : ∃ x, w2.heap.size = x := ⟨_, rfl⟩
  rw [hgB] at HG2 ⊢
  clear hgB
  generalize w2.alloc (Obj.cells #[.slice asp N csp, .int .i64 (ini : Int), .slice ax nl cx, .slice at' ns ct, .int .i64 (kA : Int)] 40) = W2 at *
  go_wp2_with fail
  refine (HRE.out _ _ _ (HT1.out.md.ext HE12.out) (HTB.out.ext HE2.out)).mono ?_
  unfold ReachR
  rintro e w3 ⟨v3, R, rfl, ho3, hpw, hlr, hmr, hE3⟩
  have hr3 := ho3.reads
  obtain ⟨a3, c3, rfl, _⟩ := id hr3
  clear q0 q1 ho3 HRE
  have HR3 := Lib.hid hr3
  have HNDR := Lib.hid (hpw.imp fun h => Int.ne_of_lt h)
  have HMR := Lib.hid hmr
  have HE3 := Lib.hid (HE2.out.trans hE3)
  have HE13 := Lib.hid (HE12.out.trans hE3)
  have HG3 := Lib.hid (blk_ext HG2.out hE3)
  have HSP3 := Lib.hid (HSP.out.ext hE3)
  have HBT3 := Lib.hid (blk_ext HBT2.out hE3)
  have hrN : 0 < R.length := by
    have := (hmr m.first).2 .first
    exact List.length_pos_of_mem this
  obtain ⟨M, hM⟩ : ∃ M, R.length = M := ⟨_, rfl⟩
  rw [hM] at hrN hlr ⊢
  have HM := Lib.hid hM
  clear hr3 hpw hmr hE3 hM HG2 HSP HBT2
  have q0 := blk_cell HBT3.out (i := 0) rfl
  have q1 := blk_cell HBT3.out (i := 1) rfl
  have q2 := blk_cell HBT3.out (i := 2) rfl
  have q3 := blk_cell HBT3.out (i := 3) rfl
  go_upto_region 5 with fail
  have hx4 := ext_al (Ext.refl w3) (Obj.cells #[.slice av nv cv, .slice ar nr cr, .slice ap np cp, .slice af nf cf] 34)
  have HX4 := Lib.hid hx4
  have HBU4 := Lib.hid (blk_new w3 (Obj.cells #[.slice av nv cv, .slice ar nr cr, .slice ap np cp, .slice af nf cf] 34))
  clear q0 q1 q2 q3 hx4 HBT3
  obtain ⟨uB, huB⟩ : ∃ x, w3.heap.size = x := ⟨_, rfl⟩
  have HUB := Lib.hid huB
  rw [huB] at HBU4 ⊢
  clear huB
  generalize w3.alloc (Obj.cells #[.slice av nv cv, .slice ar nr cr, .slice ap np cp, .slice af nf cf] 34) = W4 at *
  have hlt4 := blk_lt HBU4.out
  have hbu4 := blk_ext HBU4.out (ext_al (Ext.refl W4) (Obj.cells #[.int .i64 12, .int .i64 0] 47))
  have u3 := blk_cell hbu4 (i := 3) rfl
  have f3 := blk_free hbu4 3
  have hbu5 := blk_set (i := 3) HBU4.out (.slice (some ⟨W4.heap.size, 0, none⟩) 1 1)
  rw [(set4 _ _ _ _ _).2.2.2] at hbu5
  have hx5 := ext_al (Ext.refl (W4.setCell ⟨uB, 3, none⟩ (.slice (some ⟨W4.heap.size, 0, none⟩) 1 1))) (Obj.cells #[.int .i64 12, .int .i64 0] 47)
  have hbn6 := blk_new (W4.setCell ⟨uB, 3, none⟩ (.slice (some ⟨W4.heap.size, 0, none⟩) 1 1)) (Obj.cells #[.int .i64 12, .int .i64 0] 47)
  have hsz : (W4.setCell ⟨uB, 3, none⟩ (.slice (some ⟨W4.heap.size, 0, none⟩) 1 1)).heap.size = W4.heap.size := by simp
  rw [hsz] at hbn6
  have HBU6 := Lib.hid (blk_ext hbu5 hx5)
  have HX6 := Lib.hid ((ext_st HX4.out (p := ⟨uB, 3, none⟩) (by show w3.heap.size ≤ uB; rw [HUB.out]; exact Nat.le_refl _) (.slice (some ⟨W4.heap.size, 0, none⟩) 1 1)).trans hx5)
  have HTU := Lib.hid (show IsTask ((W4.setCell ⟨uB, 3, none⟩ (.slice (some ⟨W4.heap.size, 0, none⟩) 1 1)).alloc (Obj.cells #[.int .i64 12, .int .i64 0] 47)) (.slice av nv cv) (.slice ar nr cr) (.slice ap np cp) (.slice (some ⟨W4.heap.size, 0, none⟩) 1 1) m propT (.n0 12 0) from
    ⟨HT1.out.md.ext (HE13.out.trans HX6.out), HT1.out.pr.ext (HE13.out.trans HX6.out), ⟨_, _, rfl, tr_row (n := 1) (sz := 2) hbn6 rfl (by unfold maxLen; omega)⟩⟩)
  clear hbu5 hbn6 hx5 hsz HBU4 HX4 hbu4
  go_upto_region 6 with fail
  obtain ⟨nB, hnB⟩ : ∃ x, W4.heap.size = x := ⟨_, rfl⟩
  rw [hnB] at HBU6 HX6 HTU ⊢
  clear hnB u3 f3 hlt4
  generalize (W4.setCell ⟨uB, 3, none⟩ (.slice (some ⟨nB, 0, none⟩) 1 1)).alloc (Obj.cells #[.int .i64 12, .int .i64 0] 47) = W6 at *
  have u0 := blk_cell HBU6.out (i := 0) rfl
  have u1 := blk_cell HBU6.out (i := 1) rfl
  have u2 := blk_cell HBU6.out (i := 2) rfl
  have u3 := blk_cell HBU6.out (i := 3) rfl
  go_wp2_with fail
  refine (HVN.out _ _ _ _ _ HTU.out (HTB.out.ext (HE3.out.trans HX6.out))).mono ?_
  rintro e w7 ⟨τ2, sp2, nx2, st2, Y, L2, rfl, hm, hX, hE7⟩
  clear u0 u1 u2 u3
  have hsp := hm.spots
  have hli := hm.lists
  have hin := hm.ints
  obtain ⟨asp2, csp2, rfl, _⟩ := id hsp
  obtain ⟨ax2, cx2, rfl⟩ : ∃ a c, nx2 = .slice a L2.length c := by
    obtain ⟨vs, _, a, c, e, _⟩ := hli
    exact ⟨a, c, e⟩
  obtain ⟨at2, ct2, rfl, _⟩ := id hin
  obtain ⟨ini2, hini⟩ : ∃ k, (iX m propT (.n0 12 0)).length = k := ⟨_, rfl⟩
  obtain ⟨kA2, hkA⟩ : ∃ k, cntA (Tm.n0 12 0).flat = k := ⟨_, rfl⟩
  have hYR := no_spots HN.out hX HMR.out HNDR.out
  rw [HM.out] at hYR
  rw [hini, hkA, hYR]
  clear hini hkA hYR
  generalize (Y.map (sX m propT (.n0 12 0))).length = ns2 at *
  generalize L2.length = nl2 at *
  have hx8 := ext_al (Ext.refl w7) (Obj.cells #[.slice asp2 M csp2, .int .i64 (ini2 : Int), .slice ax2 nl2 cx2, .slice at2 ns2 ct2, .int .i64 (kA2 : Int)] 40)
  have HG8 := Lib.hid (blk_new w7 (Obj.cells #[.slice asp2 M csp2, .int .i64 (ini2 : Int), .slice ax2 nl2 cx2, .slice at2 ns2 ct2, .int .i64 (kA2 : Int)] 40))
  have HE38 := Lib.hid (HX6.out.trans (hE7.trans hx8))
  clear hm hX hE7 hsp hli hin hx8 HVN HTU HBU6 HX6
  go_upto_region 7 with fail
  obtain ⟨gC, hgC⟩ : ∃ x, w7.heap.size = x := ⟨_, rfl⟩
  rw [hgC] at HG8 ⊢
  clear hgC
  generalize w7.alloc (Obj.cells #[.slice asp2 M csp2, .int .i64 (ini2 : Int), .slice ax2 nl2 cx2, .slice at2 ns2 ct2, .int .i64 (kA2 : Int)] 40) = W8 at *
  have HG38 := Lib.hid (blk_ext HG3.out HE38.out)
  have HR8 := Lib.hid (HR3.out.ext HE38.out)
  have HSP8 := Lib.hid (HSP3.out.ext HE38.out)
  have HEF := Lib.hid (HEE.out.trans (HE3.out.trans HE38.out))
  clear HG3 HR3 HSP3 HE38
  have g0 := blk_cell HG8.out (i := 0) rfl
  have k0 := blk_cell HG38.out (i := 0) rfl
  have hMI : ((M : Int) == 0) = false := by rw [beq_eq_false_iff_ne]; omega
  go_wp2_with fail
  clear g0 k0 hMI HG8
  unfold maxLen at *
  go_loopg [13] N (fun g x wr => ∃ k : Nat, g + k = N ∧ x = .int .i64 (k : Int) ∧ Ext W8 wr)
  case atStart => exact ⟨0, by omega, by go_num, Ext.refl _⟩
  case round =>
    obtain ⟨k, hgk, rfl, hE⟩ := hrel
    have HGK := Lib.hid hgk
    have HE := Lib.hid hE
    have k0 := cell_later hE (blk_cell HG38.out (i := 0) rfl)
    clear hgk hE
    by_cases hk : k < N
    · obtain ⟨gc, hgc⟩ : ∃ x : Nat, x = gk := ⟨_, rfl⟩
      have HGC := Lib.hid hgc
      obtain ⟨hs1, hs2, bS, oS, s1, s2⟩ := spots_cells HSP8.out
      obtain rfl := s1 (by have := HXN.out; omega)
      have hkX : k < X.length := by have := HXN.out; omega
      have hgX : X[k]? = some X[k] := List.getElem?_eq_getElem hkX
      have HIN := Lib.hid ((HMR.out _).2 (HSR.out k _ hgX))
      have cS := (s2 k hkX).1
      generalize (X[k]).1 = s at *
      have HCS := Lib.hid cS
      obtain ⟨_, _, er, hrr⟩ := id HR8.out
      simp only [Value.slice.injEq, true_and] at er
      obtain ⟨rfl, rfl⟩ := er
      obtain ⟨bI, oI, i1, i2⟩ := ints_cells hrr
      obtain rfl := i1 (by have := HM.out; omega)
      have HI2 := Lib.hid i2
      have hc1 := hrr.le
      have hc2 := hrr.max
      have hkI : (k : Int) < (N : Int) := by omega
      have hk0 : (0 : Int) ≤ (k : Int) := by omega
      unfold maxLen at hs2 hc2
      clear hgc s2 hkX hgX cS i2 hrr
      go_wp2_with fail
      clear k0
      go_loopg [15, 14] M (fun g x z wq => ∃ (j : Nat) (b : Bool), g + j = M ∧ x = .int .i64 (j : Int) ∧ z = .bool b ∧ Ext W8 wq ∧ (b = true ↔ ∃ i, i < j ∧ R[i]? = some s))
      case atStart => exact ⟨0, false, by omega, by go_num, rfl, HE.out, ⟨(fun h => by cases h), fun ⟨i, hi, _⟩ => by omega⟩⟩
      case round =>
        obtain ⟨j, b, hgj, rfl, rfl, hE, hb⟩ := hrel
        have HGJ := Lib.hid hgj
        have HB := Lib.hid hb
        have HEq := Lib.hid hE
        have k0 := cell_later hE (blk_cell HG38.out (i := 0) rfl)
        have cS := cell_later hE HCS.out
        clear hgj hE hb
        by_cases hj : j < M
        · have hjR : j < R.length := by have := HM.out; omega
          have cJ := cell_later HEq.out (HI2.out j hjR)
          have hgR : R[j]? = some R[j] := List.getElem?_eq_getElem hjR
          generalize R[j] = y at *
          have HGR := Lib.hid hgR
          have hjI : (j : Int) < (M : Int) := by omega
          have hj0 : (0 : Int) ≤ (j : Int) := by omega
          clear hgR
          have HBN := Lib.hid (show (b || (y == s)) = true ↔ ∃ i, i < j + 1 ∧ R[i]? = some s from by
            rw [Bool.or_eq_true, HB.out, beq_iff_eq]
            constructor
            · rintro (⟨i, h1, h2⟩ | h1)
              · exact ⟨i, by omega, h2⟩
              · subst h1; exact ⟨j, by omega, HGR.out⟩
            · rintro ⟨i, h1, h2⟩
              by_cases ej : i = j
              · subst ej
                rw [HGR.out] at h2
                exact .inr (Option.some.inj h2)
              · exact .inl ⟨i, by omega, h2⟩)
          obtain ⟨q, hq⟩ : ∃ q, (y == s) = q := ⟨_, rfl⟩
          rw [hq] at HBN
          go_upto_region 16 with fail
          cases b
          all_goals cases q
          all_goals
            go_quiet (fail)
            obtain ⟨q0, rfl⟩ : ∃ q0 : Nat, q0 = nq := ⟨_, rfl⟩
            have hdq : Ext wr (wr.drewN q0) := below_drewN (Ext.refl _) _
            have HEX := Lib.hid (Ext.trans HEq.out hdq)
            clear hdq
            go_wp2_with fail
            go_roundg (gk - 1)
            case measure => have := HGJ.out; omega
            case rel => exact ⟨j + 1, _, by have := HGJ.out; omega, by go_num, rfl, HEX.out, HBN.out⟩
        · obtain rfl : M = j := by have := HGJ.out; omega
          have hjI : ¬ (M : Int) < (M : Int) := by omega
          obtain rfl : b = true := HB.out.2 (by
            obtain ⟨i, hi, e⟩ := List.mem_iff_getElem.1 HIN.out
            exact ⟨i, by have := HM.out; omega, by rw [List.getElem?_eq_getElem hi, e]⟩)
          go_wp2_with fail
          go_roundg (gc - 1)
          case measure => have := HGC.out; have := HGK.out; omega
          case rel => exact ⟨k + 1, by have := HGC.out; have := HGK.out; omega, by go_num, HEq.out⟩
    · obtain rfl : k = N := by have := HGK.out; omega
      have hkI : ¬ (k : Int) < (k : Int) := by omega
      go_wp2
      go_ret
      exact ⟨rfl, HEF.out.trans HE.out⟩

end Go.Proofs.YtbmimdnpchldlaaDoor
