/- The law TopSettles. -/
import Derived.Test.YtbmimdnpchldlaaGreatDoorKtTopS
namespace Go.Proofs.YtbmimdnpchldlaaGreatDoor
open Go.RowKit

set_option maxRecDepth 100000 in
set_option maxHeartbeats 16000000 in
theorem topSettles_law (cs : Array Value) (v1 : Value) (W : World) (ht : Tab W) (h0 : Cells Tryz.prog W 25 cs.toList) (h1 : Cells Tryz.prog W 3 [v1]) :
    Calls Tryz.prog 8 #[.agg cs, v1] W fun e w' => e = .returned (.bool true) ∧ Ext W w' := by
  obtain ⟨d, pv, rfl, hpl, hd⟩ := design_of h0
  obtain ⟨n1, e1, i1⟩ := h1.i64 Tryz.underlying3
  cases e1
  have EE := ext_al (Ext.refl W) (Obj.cells (dnc d pv) 25)
  have HB := blk_new W (Obj.cells (dnc d pv) 25)
  obtain ⟨N, hN⟩ : ∃ N : Nat, countL d.md.vars = (N : Int) := ⟨(countL d.md.vars).toNat, by have := d.drawn.n1; omega⟩
  have hN1 : 1 ≤ N := by have := d.drawn.n1; omega
  have hN16 : N ≤ 16 := by have := d.drawn.n16; omega
  have hPre := d.drawn.ok.toPre
  have HWO := Lib.hid (world_any pv d _ (ht.ext EE) (hpl.ext EE) hd N hN)
  have HH := Lib.hid fun (fv : Value) (t : Tm) (wx : World) (b : Bool) (hx : Ext (W.alloc (Obj.cells (dnc d pv) 25)) wx) (hf : IsT wx fv t) (a c : Nat) (hF : Fm t a c) (ha : a ≤ 60) (hc : c ≤ 6) (hb : holdsB d.md propT t = b) => tholds_b pv fv d t wx ((ht.ext EE).ext hx) ((hpl.ext EE).ext hx) hd hf hF ha hc b hb
  have P1 := Lib.hid fun wx => prop_any n1 wx i1.1 i1.2
  have D1 := Lib.hid fun wx => prop_d n1 wx i1.1 i1.2
  have K1 := Lib.hid fun wx => kpicked_any n1 3 wx i1.1 i1.2 (by omega) (by omega)
  have hk1 := pk_bd n1 3 (by omega)
  obtain ⟨q1, hq1⟩ : ∃ q : Nat, pk n1 3 = (q : Int) := ⟨(pk n1 3).toNat, by omega⟩
  rw [hq1] at P1 D1 K1 hk1
  have hq31 : q1 < 3 := by omega
  clear hq1 hk1
  obtain ⟨hcN, hFi⟩ := codes_in hPre hN
  have HLA := Lib.hid (fun l hl => letA_three (m := d.md) (N := N) (l := l) hl)
  have HNA := Lib.hid (nextA_in (m := d.md) (N := N) hcN)
  have HNL := Lib.hid (nextA_lens (m := d.md) N (by have := d.drawn.five; omega))
  obtain ⟨b0, hb0⟩ : ∃ b, holdsB d.md propT (.n1 17 0 (.n1 18 0 (.n0 13 (q1 : Int)))) = b := ⟨_, rfl⟩
  have B0 := Lib.hid hb0
  have HME := Lib.hid fun (k l : List Bool) (b : Bool) (hk : k.length = N) (hmk : ∀ c : Nat, c < N → (k[c]? = some true ↔ BackQ (letA d.md propT N) (nextA d.md N) N q1 c)) (hl : l.length = N) (hm : ∀ c : Nat, l[c]? = some true ↔ LeadI (nextA d.md N) (List.replicate N true) k c) (hg : l[d.md.first.toNat]? = some b) => hb0.symm.trans (settles_b hPre hN (v := (q1 : Int)) (lead_marks hcN (MarksS.all N) (back_marks hcN hk hmk) hm hl) hg)
  have HAL := Lib.hid fun wx => all_any N wx (by omega) (by omega)
  have HLR := Lib.hid (show (List.replicate N true).length = N by simp)
  have F0 := Lib.hid (((fm_prop hq31).one 18 2 1 (.inr ⟨by omega, by omega⟩) (by omega)).one 17 3 2 (.inr ⟨by omega, by omega⟩) (by omega))
  clear hb0
  have HLL := Lib.hid (letA_len d.md propT N)
  have HNN := Lib.hid (nextA_len d.md N)
  obtain ⟨fi, hfi⟩ : ∃ fi : Nat, d.md.first = (fi : Int) := ⟨d.md.first.toNat, by have := hFi.1; omega⟩
  have hfN : fi < N := by have := hFi.2; omega
  have HMB := Lib.hid (show d.md.first.toNat = fi by omega)
  rw [hfi] at HWO
  simp only [dnc] at HH HWO EE HB ⊢
  generalize letA d.md propT N = LA at *
  generalize nextA d.md N = NA at *
  have cur := d7_of HB
  clear ht hpl hd HB h0 hN hPre hcN hFi hfi h1 i1
  go_enter Tryz.func8, Tryz.ntmps8
  go_wp2_with fail
  obtain ⟨dB, hdB⟩ : ∃ x, W.heap.size = x := ⟨_, rfl⟩
  rw [hdB] at cur ⊢
  clear hdB
  obtain ⟨w0, hw0⟩ : ∃ x, W.alloc (Obj.cells #[.int .i64 d.s0, .int .i64 d.s1, .int .i64 d.l0, .int .i64 d.l1, .int .i64 d.i0, .int .i64 d.i1, pv] 25) = x := ⟨_, rfl⟩
  rw [hw0] at HH HWO EE cur ⊢
  clear hw0
  refine HWO.out.mono ?_
  rintro e wn ⟨lv, uv, rfl, hL, hU, hE⟩
  obtain ⟨_, _, al, cl, rfl, _⟩ := id hL
  obtain ⟨_, _, au, cu, rfl, _⟩ := id hU
  have HL := Lib.hid hL
  have HU := Lib.hid hU
  have EX := hE
  replace cur := d7_later hE cur
  have E2 := Ext.refl wn
  obtain ⟨w2, hw2⟩ : ∃ x, wn = x := ⟨_, rfl⟩
  rw [hw2] at E2 HL HU
  have E2 : Ext w2 wn := by rw [hw2]; exact Ext.refl _
  clear hL hU hE hw2 HWO
  go_wp2_with fail
  go_region_held3 (fun w' => w'.cell? ⟨dB, 0, none⟩ = some (.int .i64 d.s0) ∧ w'.cell? ⟨dB, 1, none⟩ = some (.int .i64 d.s1) ∧ w'.cell? ⟨dB, 2, none⟩ = some (.int .i64 d.l0) ∧ w'.cell? ⟨dB, 3, none⟩ = some (.int .i64 d.l1) ∧ w'.cell? ⟨dB, 4, none⟩ = some (.int .i64 d.i0) ∧ w'.cell? ⟨dB, 5, none⟩ = some (.int .i64 d.i1) ∧ w'.cell? ⟨dB, 6, none⟩ = some (pv))
    (first | exact cur | exact d7_drew cur | exact d7_alloc cur | exact d7_drew (d7_alloc cur) | exact d7_drew (d7_alloc (d7_alloc cur)) | exact d7_alloc (d7_alloc cur) | go_keep)
    (first
      | (go_at_call 27
         have hq := J1
         clear hq
         refine (kT1 17 _ _ _ _ J1 (by first | omega | (simp only [Tm.size]; omega))).mono ?_
         rintro e wn ⟨vj, rfl, J2, hE⟩
         obtain ⟨ajJ2, mjJ2, cjJ2, rfl⟩ := J2.val
         replace E2 := E2.trans hE
         replace A1 := A1.ext hE
         replace J1 := J1.ext hE
         replace cur := d7_later hE cur
         replace EX := EX.trans hE
         clear hE)
      | (go_at_call 27
         refine (kT1 18 _ _ _ _ A1 (by first | omega | (simp only [Tm.size]; omega))).mono ?_
         rintro e wn ⟨vj, rfl, J1, hE⟩
         obtain ⟨ajJ1, mjJ1, cjJ1, rfl⟩ := J1.val
         replace E2 := E2.trans hE
         replace A1 := A1.ext hE
         replace cur := d7_later hE cur
         replace EX := EX.trans hE
         clear hE)
      | (go_at_call 28
         with_reducible refine (P1.out _).mono ?_
         rintro e wn ⟨vp, rfl, A1, hE⟩
         obtain ⟨ap1, mp1, cp1, rfl⟩ := A1.val
         replace E2 := E2.trans hE
         replace cur := d7_later hE cur
         replace EX := EX.trans hE
         clear hE)
      | (go_at_call 28
         with_reducible refine (D1.out _).mono ?_
         rintro e wn ⟨vp, rfl, A1, hE⟩
         obtain ⟨ap1, mp1, cp1, rfl⟩ := A1.val
         replace E2 := E2.trans hE
         replace cur := d7_later hE cur
         replace EX := EX.trans hE
         clear hE)
      | (go_at_call 26
         refine (HH.out _ _ _ _ EX J2 _ _ (F0.out) (by omega) (by omega) B0.out).mono ?_
         rintro e wn ⟨rfl, hE⟩
         replace E2 := E2.trans hE
         replace cur := d7_later hE cur
         replace EX := EX.trans hE
         clear hE
         clear J1 J2 A1))
  go_wp2_with (at_make; go_must (refine wpList_make_full _ rfl _ _ 53 rfl wn.heap.size 4 (Tryz.slBoolsS.inf.choose) (.bool false) 1 Tryz.underlying53 Tryz.slBoolsS.inf.choose_spec.1 Tryz.slBoolsS.inf.choose_spec.2.1 Tryz.slBoolsS.inf.choose_spec.2.2.1 .i64 .i64 N N N rfl rfl rfl rfl (by rw [Tryz.slBoolsS.inf.choose_spec.2.2.2]; omega) (by unfold maxLen; omega) (Nat.le_refl _) ?_))
  intro w4 hown4 hg4
  rw [made_false] at hown4
  have HO4 := Lib.hid hown4
  have HX4 := Lib.hid ((Ext.refl wn).grown hg4 (Nat.le_refl _) (by simp))
  obtain ⟨D1, hD1⟩ : ∃ D, wn.heap.size = D := ⟨_, rfl⟩
  have HD1 := Lib.hid hD1
  rw [hD1] at HO4 ⊢
  clear hown4 hg4 hD1
  have HBL := Lib.hid (lx_cells (ll := LA) (by rw [HLL.out]; exact lx_ext (E := Bools) (fun h hx => bools_ext h hx) HL.out E2))
  have HUL := Lib.hid (lx_cells (ll := NA) (by rw [HNN.out]; exact lx_ext (E := Ints) (fun h hx => h.ext hx) HU.out E2))
  obtain ⟨_, _, e, hl1, hl2, bL, oL, hl3, hl4⟩ := HBL.out
  simp only [Value.slice.injEq] at e
  obtain ⟨rfl, -, rfl⟩ := e
  obtain rfl := hl3 (by rw [HLL.out]; omega)
  obtain ⟨_, _, e, hu1, hu2, bU, oU, hu3, hu4⟩ := HUL.out
  simp only [Value.slice.injEq] at e
  obtain ⟨rfl, -, rfl⟩ := e
  obtain rfl := hu3 (by rw [HNN.out]; omega)
  rw [HLL.out] at hl1
  rw [HNN.out] at hu1
  unfold maxLen at hl2 hu2
  have HL4 := Lib.hid hl4
  have HU4 := Lib.hid hu4
  clear HBL HUL hl3 hl4 hu3 hu4
  go_wp2_with fail
  go_loopg [12] N (fun g x wr => ∃ (c : Nat) (bk : List Bool), g + c = N ∧ x = .int .i64 (c : Int) ∧ Ext wn wr ∧ wr.ownsRow D1 4 1 (.slice (some ⟨D1, 0, none⟩) N N) N (bk.map .bool) ∧ bk.length = N ∧ (∀ d : Nat, d < c → (bk[d]? = some true ↔ BackQ LA NA N q1 d)) ∧ (∀ d : Nat, c ≤ d → d < N → bk[d]? = some false))
  case atStart => exact ⟨0, List.replicate N false, by omega, by go_num, HX4.out, HO4.out, by simp, fun d hd => by omega, fun d _ hd => by simp [hd]⟩
  case round =>
    obtain ⟨c, bk, hgc, rfl, hE, hO, hbl, hb1, hb2⟩ := hrel
    have HGC := Lib.hid hgc
    have HEw := Lib.hid hE
    have HO := Lib.hid hO
    have HBL := Lib.hid hbl
    have HB1 := Lib.hid hb1
    have HB2 := Lib.hid hb2
    have hD1w := (hO.lt D1 rfl).2
    clear hgc hE hO hbl hb1 hb2 HO4 HX4
    by_cases hc : c < N
    · have hcI : (c : Int) < (N : Int) := by omega
      have hc0 : (0 : Int) ≤ (c : Int) := by omega
      go_wp2_with (at_make; go_must (refine wpList_make_full _ rfl _ _ 53 rfl wr.heap.size 4 (Tryz.slBoolsS.inf.choose) (.bool false) 1 Tryz.underlying53 Tryz.slBoolsS.inf.choose_spec.1 Tryz.slBoolsS.inf.choose_spec.2.1 Tryz.slBoolsS.inf.choose_spec.2.2.1 .i64 .i64 N N N rfl rfl rfl rfl (by rw [Tryz.slBoolsS.inf.choose_spec.2.2.2]; omega) (by unfold maxLen; omega) (Nat.le_refl _) ?_))
      intro w5 hown5 hg5
      rw [made_false] at hown5
      have hx5 := (Ext.refl wr).grown hg5 (Nat.le_refl _) (by simp)
      obtain ⟨D2, hD2⟩ : ∃ D, wr.heap.size = D := ⟨_, rfl⟩
      have HD2 := Lib.hid hD2
      rw [hD2] at hown5 hD1w ⊢
      have f2 := own_freeAt hown5 c
      have d2 := own_cellAt hown5 (i := c) (by simp; exact hc)
      rw [List.getElem_map, List.getElem_replicate] at d2
      have hO6 := own_setAt hown5 (i := c) (.bool true)
      rw [set_bools] at hO6
      have RO := Lib.hid hO6.reads
      have hx6 := ext_st hx5 (p := ⟨D2, c, none⟩) (by rw [hD2]; exact Nat.le_refl _) (.bool true)
      have HX6 := Lib.hid hx6
      clear hown5 hg5 hx5 hO6 hx6 hD2
      go_upto_region 11 with fail
      generalize w5.setCell ⟨D2, c, none⟩ (.bool true) = w6 at *
      clear f2 d2
      go_wp2_with fail
      refine (HAL.out _).mono ?_
      rintro e w7 ⟨vT, rfl, ho, hE7⟩
      have RT := Lib.hid ho.reads
      obtain ⟨aT, cT, rfl, _⟩ := id RT.out
      have HX7 := Lib.hid (HX6.out.trans hE7)
      have RO7 := Lib.hid (RO.out.ext hE7)
      clear ho hE7
      go_wp2_with fail
      refine (leadsTo_any _ _ _ NA (List.replicate N true) ((List.replicate N false).set c true) _ (by rw [HNN.out]; exact lx_ext (E := Ints) (fun h hx => h.ext hx) HU.out (E2.trans (HEw.out.trans HX7.out))) (by unfold Bools; rw [List.length_replicate]; exact RT.out) (by unfold Bools; rw [List.length_set, List.length_replicate]; exact RO7.out) (by rw [HNN.out]; simp) (by simp) (by simp; omega) (by simp; omega) (by simp only [List.length_set, List.length_replicate]; exact HNA.out) HNL.out).mono ?_
      unfold SetR
      rintro e w8 ⟨vI, iI, rfl, ho, hlI, hmI, hE8⟩
      simp only [List.length_set, List.length_replicate] at ho hlI
      obtain ⟨HI, cI, rfl⟩ := own_shape ho (by omega)
      have hcIN : N ≤ cI := by obtain ⟨_, _, e, h⟩ := ho.row; simp only [Value.slice.injEq] at e; obtain ⟨-, -, rfl⟩ := e; exact h.le
      have hcIm : cI ≤ 9223372036854775807 := by obtain ⟨_, _, e, h⟩ := ho.row; simp only [Value.slice.injEq] at e; obtain ⟨-, -, rfl⟩ := e; have := h.max; unfold maxLen at this; omega
      have hneI : HI ≠ D1 := by have h1 := (ho.lt HI rfl).1; have h2 := HX7.out.size; have h3 := HD2.out; omega
      obtain ⟨BI, hBI⟩ : ∃ x, w7.heap.size = x := ⟨_, rfl⟩
      rw [hBI] at ho
      have HRI := Lib.hid ho
      have HLI := Lib.hid hlI
      have HMI := Lib.hid hmI
      have HX8 := Lib.hid (HEw.out.trans (HX7.out.trans hE8))
      have HO8 := Lib.hid (own_ext HO.out (HX7.out.trans hE8))
      clear ho hlI hmI hE8 hBI RO RT RO7 HX6 HX7 HO HEw
      obtain ⟨u, hu, hiu⟩ := HU4.out c (by rw [HNN.out]; exact hc)
      have hlm : NA[c]'(by rw [HNN.out]; exact hc) ∈ NA := by simp
      have hkin := HNA.out _ hlm
      have hk1000 := HNL.out _ hlm
      have hgl : NA[c]? = some (NA[c]'(by rw [HNN.out]; exact hc)) := List.getElem?_eq_getElem _
      generalize NA[c]'(by rw [HNN.out]; exact hc) = ns at *
      obtain ⟨au, cu, rfl, hz1, hz2, bu, ou, hz3, hz4⟩ := ints_of hiu
      have HZ3 := Lib.hid hz3
      have HZ4 := Lib.hid hz4
      have HKI := Lib.hid hkin
      have HGL := Lib.hid hgl
      obtain ⟨n, hn⟩ : ∃ x, ns.length = x := ⟨_, rfl⟩
      have HLN := Lib.hid hn
      rw [hn] at hu hz1 hk1000
      have HCU := Lib.hid hu
      obtain ⟨v, hv, hiv⟩ := HL4.out c (by rw [HLL.out]; exact hc)
      have hl3 := HLA.out (LA[c]'(by rw [HLL.out]; exact hc)) (by simp)
      have hgx : LA[c]? = some (LA[c]'(by rw [HLL.out]; exact hc)) := List.getElem?_eq_getElem _
      generalize LA[c]'(by rw [HLL.out]; exact hc) = ls at *
      obtain ⟨av, cv, rfl, hy1, hy2, bv, ov, hy3, hy4⟩ := bools_at hiv
      rw [hl3] at hv hy1
      obtain rfl := hy3 (by omega)
      have hxq : ls[q1]? = some (ls.getD q1 false) := by rw [List.getD, List.getElem?_eq_getElem (by omega)]; rfl
      have HCV := Lib.hid hv
      have HCX := Lib.hid (hy4 q1 _ hxq)
      have HBR := Lib.hid fun (y : Bool) hy => back_round (q := q1) hgx hgl HMI.out (y := y) hy
      obtain ⟨x, hx⟩ : ∃ x, ls.getD q1 false = x := ⟨_, rfl⟩
      rw [hx] at HCX HBR
      unfold maxLen at hz2 hy2
      obtain ⟨gc, hgc⟩ : ∃ x : Nat, x = gk := ⟨_, rfl⟩
      have HGK := Lib.hid hgc
      obtain ⟨wo, rfl⟩ : ∃ x : World, x = wr := ⟨_, rfl⟩
      clear hu hiu hz3 hz4 hkin hgl hn hlm hv hiv hy3 hy4 hxq hgx hx hgc
      go_wp2_with fail
      go_loopg [15] n (fun g z wq => ∃ (k : Nat) (y : Bool), g + k = n ∧ z = .int .i64 (k : Int) ∧ Ext wn wq ∧ wq.ownsRow D1 4 1 (.slice (some ⟨D1, 0, none⟩) N N) N ((bk.set c y).map .bool) ∧ wq.ownsRow BI 4 1 (.slice (some ⟨HI, 0, none⟩) N cI) N (iI.map .bool) ∧
        (y = true ↔ x = false ∧ ∃ (j e : Nat), j < k ∧ ns[j]? = some (e : Int) ∧ iI[e]? = some true))
      case atStart => exact ⟨0, false, by omega, by go_num, HX8.out, by rw [list_set_same (HB2.out c (Nat.le_refl _) hc)]; exact HO8.out, HRI.out, ⟨(fun h => by cases h), fun ⟨_, j, e, hj, _⟩ => by omega⟩⟩
      case round =>
        obtain ⟨k, y, hgk, rfl, hE, hO, hR, hS⟩ := hrel
        have HGK2 := Lib.hid hgk
        have HEq := Lib.hid hE
        have HOq := Lib.hid hO
        have HRq := Lib.hid hR
        have HS := Lib.hid hS
        have cU := cell_later hE HCU.out
        clear hgk hE hO hR hS HO8 HX8 HRI
        by_cases hk : k < n
        · have hkl : k < ns.length := by have := HLN.out; omega
          have hgl : ns[k]? = some ns[k] := List.getElem?_eq_getElem hkl
          obtain ⟨hk1, hk2⟩ := HKI.out ns[k] (by simp)
          generalize ns[k] = xx at *
          obtain ⟨e, rfl⟩ : ∃ e : Nat, xx = (e : Int) := ⟨xx.toNat, by omega⟩
          obtain rfl := HZ3.out (by have := HLN.out; omega)
          have cK := cell_later HEq.out (HZ4.out k _ hgl)
          have he1 : e < iI.length := by have := HLI.out; omega
          have cE := own_cellAt HRq.out (i := e) (by rw [List.length_map]; exact he1)
          rw [List.getElem_map] at cE
          have hget : iI[e]? = some iI[e] := List.getElem?_eq_getElem he1
          generalize iI[e] = z at *
          have cV := cell_later HEq.out HCV.out
          have cX := cell_later HEq.out HCX.out
          have f1 := own_freeAt HOq.out c
          have d1 := own_cellAt HOq.out (i := c) (by rw [List.length_map, List.length_set, HBL.out]; exact hc)
          rw [List.getElem_map, List.getElem_set_self] at d1
          have HSA := Lib.hid fun (v : Bool) => own_setAt HOq.out (i := c) (.bool v)
          have HNS := Lib.hid (show (y || (!x && z)) = true ↔ x = false ∧ ∃ (j e : Nat), j < k + 1 ∧ ns[j]? = some (e : Int) ∧ iI[e]? = some true from by
            rw [Bool.or_eq_true, HS.out, Bool.and_eq_true, Bool.not_eq_true']
            constructor
            · rintro (⟨h1, j, q, h2, h3, h4⟩ | ⟨h1, h2⟩)
              · exact ⟨h1, j, q, by omega, h3, h4⟩
              · subst h2; exact ⟨h1, k, e, by omega, hgl, hget⟩
            · rintro ⟨h1, j, q, h2, h3, h4⟩
              by_cases ej : j = k
              · subst ej
                rw [hgl] at h3
                have : q = e := by have := Option.some.inj h3; omega
                subst this
                rw [hget] at h4
                exact .inr ⟨h1, Option.some.inj h4⟩
              · exact .inl ⟨h1, j, q, by omega, h3, h4⟩)
          have hkI : (k : Int) < (n : Int) := by omega
          have hk0 : (0 : Int) ≤ (k : Int) := by omega
          have hqI : (q1 : Int) < 3 := by omega
          have hq0 : (0 : Int) ≤ (q1 : Int) := by omega
          have heI : (e : Int) < (N : Int) := by have := HLI.out; omega
          have he0 : (0 : Int) ≤ (e : Int) := by omega
          clear hgl hget he1 hk1 hk2
          go_upto_region 15 with fail
          have HSF := Lib.hid (still_of (K1.out wr.drew))
          have cU' : wr.drew.cell? ⟨bU, oU + c, none⟩ = _ := cU
          have cK' : wr.drew.cell? _ = _ := cK
          have cE' : wr.drew.cell? _ = _ := cE
          have cV' : wr.drew.cell? _ = _ := cV
          have cX' : wr.drew.cell? _ = _ := cX
          have d1' : wr.drew.cell? _ = _ := d1
          clear cU cK cE cV cX d1
          have f1' : wr.drew.frozen? ⟨D1, c, none⟩ = false := f1
          have hDR := Below.drew (Ext.refl wr)
          have HFE := Lib.hid (Ext.trans HEq.out hDR)
          have HFI := Lib.hid (own_ext HRq.out hDR)
          have HFB := Lib.hid fun (v : Bool) => own_setAt (own_ext HOq.out hDR) (i := c) (.bool v)
          clear f1 HOq HRq HSA hDR
          cases y
          case' false => cases x
          all_goals
            refine region_tail 29 (by kernel_rfl) (by kernel_rfl) (Shut.out ?_)
            generalize hWd : wr.drew = Wd at *
            clear hWd
            simp only [List.take_succ_cons, List.take_zero, List.drop_succ_cons, List.drop_zero]
            iterate 29 (refine hs_step (fun K hK => ?_); go_simp; first | (refine hK _ ?_; clear hK K) | (refine ⟨_, HSF.out, hK _ ?_⟩; clear hK K))
            refine hs_nil ?_
            go_wp2_with fail
            go_roundg (gk - 1)
            case measure => have := HGK2.out; omega
            case rel => first | exact ⟨k + 1, true, by have := HGK2.out; omega, by go_num, ext_st HFE.out (p := ⟨D1, c, none⟩) (by rw [HD1.out]; exact Nat.le_refl _) _, (by have h := HFB.out true; rw [set_bools, List.set_set] at h; exact h), own_setCell HFI.out (p := ⟨D1, c, none⟩) _ (fun e => by simp [Value.ownBlock] at e; omega), by have h := HNS.out; simpa using h⟩ | exact ⟨k + 1, z, by have := HGK2.out; omega, by go_num, ext_st HFE.out (p := ⟨D1, c, none⟩) (by rw [HD1.out]; exact Nat.le_refl _) _, (by have h := HFB.out z; rw [set_bools, List.set_set] at h; exact h), own_setCell HFI.out (p := ⟨D1, c, none⟩) _ (fun e => by simp [Value.ownBlock] at e; omega), by have h := HNS.out; simpa using h⟩ | exact ⟨k + 1, false, by have := HGK2.out; omega, by go_num, ext_st HFE.out (p := ⟨D1, c, none⟩) (by rw [HD1.out]; exact Nat.le_refl _) _, (by have h := HFB.out false; rw [set_bools, List.set_set] at h; exact h), own_setCell HFI.out (p := ⟨D1, c, none⟩) _ (fun e => by simp [Value.ownBlock] at e; omega), by simp⟩
        · obtain rfl : k = n := by have := HGK2.out; omega
          have hkI : ¬ (k : Int) < (k : Int) := by omega
          have HBQ := Lib.hid (HBR.out y (by rw [HLN.out]; exact HS.out))
          go_wp2_with fail
          go_roundg (gc - 1)
          case measure => have := HGC.out; have := HGK.out; omega
          case rel => exact ⟨c + 1, bk.set c y, by have := HGC.out; have := HGK.out; omega, by go_num, HEq.out, HOq.out, by rw [List.length_set]; exact HBL.out, fun d hd => by
              rw [List.getElem?_set]
              by_cases e : c = d
              · subst e
                rw [if_pos rfl, if_pos (by rw [HBL.out]; exact hc), Option.some.injEq]
                exact HBQ.out
              · rw [if_neg e]
                exact HB1.out d (by omega), fun d hd hdN => by
              rw [List.getElem?_set, if_neg (by omega)]
              exact HB2.out d (by omega) hdN⟩
    · obtain rfl : c = N := by have := HGC.out; omega
      have hcI : ¬ (c : Int) < (c : Int) := by omega
      have RK := Lib.hid HO.out.reads
      have hE := HEw.out
      replace E2 := E2.trans hE
      replace EX := EX.trans hE
      clear hE HO HEw
      obtain ⟨N, rfl⟩ : ∃ x, x = c := ⟨_, rfl⟩
      obtain ⟨wn, rfl⟩ : ∃ x, x = wr := ⟨_, rfl⟩
      go_wp2_with fail
      refine (HAL.out _).mono ?_
      rintro e wz ⟨vRT, rfl, ho, hE⟩
      have RT := Lib.hid ho.reads
      obtain ⟨aRT, cRT, rfl, _⟩ := id RT.out
      clear ho
      replace E2 := E2.trans hE
      replace EX := EX.trans hE
      replace RK := Lib.hid (RK.out.ext hE)
      clear hE
      obtain ⟨wn, rfl⟩ : ∃ x, x = wz := ⟨_, rfl⟩
      go_wp2_with fail
      refine (leadsTo_any _ _ _ NA (List.replicate N true) bk _ (by rw [HNN.out]; exact lx_ext (E := Ints) (fun h hx => h.ext hx) HU.out E2) (by unfold Bools; rw [HLR.out]; exact RT.out) (by unfold Bools; rw [HBL.out]; exact RK.out) (by rw [HNN.out]; exact HBL.out.symm) (by rw [HLR.out]; exact HBL.out.symm) (by rw [HBL.out]; omega) (by rw [HBL.out]; omega) (by rw [HBL.out]; exact HNA.out) HNL.out).mono ?_
      unfold SetR
      rintro e wz ⟨vRL, iRL, rfl, ho, hlRL, hmRL, hE⟩
      rw [HBL.out] at ho hlRL
      have RL := Lib.hid ho.reads
      have LRL := Lib.hid hlRL
      have MRL := Lib.hid hmRL
      obtain ⟨aRL, cRL, rfl, _⟩ := id RL.out
      clear ho hlRL hmRL
      replace E2 := E2.trans hE
      replace EX := EX.trans hE
      replace RK := Lib.hid (RK.out.ext hE)
      replace RT := Lib.hid (RT.out.ext hE)
      clear hE
      obtain ⟨wn, rfl⟩ : ∃ x, x = wz := ⟨_, rfl⟩
      have hgi : fi < iRL.length := by rw [LRL.out]; exact hfN
      have hh : iRL[fi]? = some iRL[fi] := List.getElem?_eq_getElem hgi
      generalize iRL[fi] = bs at *
      obtain ⟨bbRL, ooRL, rfl, ccRL⟩ := bool_at RL.out hh
      have hbs := HME.out bk iRL bs HBL.out HB1.out LRL.out MRL.out (by rw [HMB.out]; exact hh)
      have hfI : (fi : Int) < (N : Int) := by omega
      have hf0 : (0 : Int) ≤ (fi : Int) := by omega
      have HEF := Lib.hid (EE.trans EX)
      clear cur EX E2 HH
      subst hbs
      go_wp2
      go_ret
      exact ⟨rfl, HEF.out⟩

end Go.Proofs.YtbmimdnpchldlaaGreatDoor
