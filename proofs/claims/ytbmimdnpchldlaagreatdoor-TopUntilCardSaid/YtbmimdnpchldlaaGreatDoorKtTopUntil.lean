/- The law TopUntil. -/
import Derived.Test.YtbmimdnpchldlaaGreatDoorKtTopE2
namespace Go.Proofs.YtbmimdnpchldlaaGreatDoor
open Go.RowKit

set_option maxRecDepth 100000 in
set_option maxHeartbeats 16000000 in
theorem topUntil_law (cs : Array Value) (v1 : Value) (v2 : Value) (W : World) (ht : Tab W) (h0 : Cells Tryz.prog W 25 cs.toList) (h1 : Cells Tryz.prog W 3 [v1]) (h2 : Cells Tryz.prog W 3 [v2]) :
    Calls Tryz.prog 5 #[.agg cs, v1, v2] W fun e w' => e = .returned (.bool true) ∧ Ext W w' := by
  obtain ⟨d, pv, rfl, hpl, hd⟩ := design_of h0
  obtain ⟨n1, e1, i1⟩ := h1.i64 Tryz.underlying3
  cases e1
  obtain ⟨n2, e2, i2⟩ := h2.i64 Tryz.underlying3
  cases e2
  have EE := ext_al (Ext.refl W) (Obj.cells (dnc d pv) 25)
  have HB := blk_new W (Obj.cells (dnc d pv) 25)
  obtain ⟨N, hN⟩ : ∃ N : Nat, countL d.md.vars = (N : Int) := ⟨(countL d.md.vars).toNat, by have := d.drawn.n1; omega⟩
  have hN1 : 1 ≤ N := by have := d.drawn.n1; omega
  have hN16 : N ≤ 16 := by have := d.drawn.n16; omega
  have hPre := d.drawn.ok.toPre
  have HWO := Lib.hid (world_any pv d _ (ht.ext EE) (hpl.ext EE) hd N hN)
  have HH := Lib.hid fun (fv : Value) (t : Tm) (wx : World) (b : Bool) (hx : Ext (W.alloc (Obj.cells (dnc d pv) 25)) wx) (hf : IsT wx fv t) (a c : Nat) (hF : Fm t a c) (ha : a ≤ 60) (hc : c ≤ 6) (hb : holdsB d.md propT t = b) => tholds_b pv fv d t wx ((ht.ext EE).ext hx) ((hpl.ext EE).ext hx) hd hf hF ha hc b hb
  have P1 := Lib.hid fun wx => prop_any n1 wx i1.1 i1.2
  have D1 := Lib.hid fun wx => prop_d n1 wx i1.1 i1.2
  have K1 := Lib.hid fun wx => kpicked_any n1 3 wx i1.1 i1.2 (by omega) (by omega)
  have hk1 := pk_bd n1 3 (by omega)
  obtain ⟨q1, hq1⟩ : ∃ q : Nat, pk n1 3 = (q : Int) := ⟨(pk n1 3).toNat, by omega⟩
  rw [hq1] at P1 D1 K1 hk1
  have hq31 : q1 < 3 := by omega
  clear hq1 hk1
  have P2 := Lib.hid fun wx => prop_any n2 wx i2.1 i2.2
  have D2 := Lib.hid fun wx => prop_d n2 wx i2.1 i2.2
  have K2 := Lib.hid fun wx => kpicked_any n2 3 wx i2.1 i2.2 (by omega) (by omega)
  have hk2 := pk_bd n2 3 (by omega)
  obtain ⟨q2, hq2⟩ : ∃ q : Nat, pk n2 3 = (q : Int) := ⟨(pk n2 3).toNat, by omega⟩
  rw [hq2] at P2 D2 K2 hk2
  have hq32 : q2 < 3 := by omega
  clear hq2 hk2
  obtain ⟨hcN, hFi⟩ := codes_in hPre hN
  have HLA := Lib.hid (fun l hl => letA_three (m := d.md) (N := N) (l := l) hl)
  have HNA := Lib.hid (nextA_in (m := d.md) (N := N) hcN)
  have HNL := Lib.hid (nextA_lens (m := d.md) N (by have := d.drawn.five; omega))
  have hM1 := col_marks (m := d.md) (P := propT) (N := N) (q1 : Int)
  rw [show ((q1 : Int)).toNat = q1 by omega] at hM1
  have hM2 := col_not (m := d.md) (P := propT) (N := N) (q2 : Int)
  rw [show ((q2 : Int)).toNat = q2 by omega] at hM2
  have hMN := hM2.less hM1
  have hMT := hM2.both hM1
  obtain ⟨b0, hb0⟩ : ∃ b, holdsB d.md propT (.n2 15 0 (.n0 13 (q1 : Int)) (.n0 13 (q2 : Int))) = b := ⟨_, rfl⟩
  have B0 := Lib.hid hb0
  have HME := Lib.hid fun (l k : List Bool) (b b2 : Bool) (hl : l.length = N) (hm : ∀ c : Nat, l[c]? = some true ↔ LeadI (nextA d.md N) (List.zipWith (fun a b => a && b) (colL (letA d.md propT N) q2 false) (colL (letA d.md propT N) q1 true)) (List.zipWith (fun a b => a && !b) (colL (letA d.md propT N) q2 false) (colL (letA d.md propT N) q1 true)) c) (hk : k.length = N) (hmk : ∀ c : Nat, k[c]? = some true ↔ StayI (nextA d.md N) (List.zipWith (fun a b => a && b) (colL (letA d.md propT N) q2 false) (colL (letA d.md propT N) q1 true)) c) (hg : l[d.md.first.toNat]? = some b) (hg2 : k[d.md.first.toNat]? = some b2) => hb0.symm.trans (until_b hPre hN (u := (q1 : Int)) (v := (q2 : Int)) (lead_marks hcN hMT hMN hm hl) hg (stay_marks hcN hMT hmk hk) hg2)
  have HC1 := Lib.hid (show (colL (letA d.md propT N) q1 true).length = N by simp [colL, letA_len])
  have HC2 := Lib.hid (show (colL (letA d.md propT N) q2 false).length = N by simp [colL, letA_len])
  have F0 := Lib.hid ((fm_prop hq31).two (fm_prop hq32) 15 3 1 (.inr ⟨by omega, by omega⟩) (by omega))
  clear hb0 hM1 hM2 hMN hMT
  have HLL := Lib.hid (letA_len d.md propT N)
  have HNN := Lib.hid (nextA_len d.md N)
  obtain ⟨fi, hfi⟩ : ∃ fi : Nat, d.md.first = (fi : Int) := ⟨d.md.first.toNat, by have := hFi.1; omega⟩
  have hfN : fi < N := by have := hFi.2; omega
  have HMB := Lib.hid (show d.md.first.toNat = fi by omega)
  rw [hfi] at HWO
  simp only [dnc] at HH HWO EE HB ⊢
  generalize letA d.md propT N = LA at *
  generalize nextA d.md N = NA at *
  have cur := d7_of HB
  clear ht hpl hd HB h0 hN hPre hcN hFi hfi h1 i1 h2 i2
  go_enter Tryz.func5, Tryz.ntmps5
  go_wp2_with fail
  obtain ⟨dB, hdB⟩ : ∃ x, W.heap.size = x := ⟨_, rfl⟩
  rw [hdB] at cur ⊢
  clear hdB
  obtain ⟨w0, hw0⟩ : ∃ x, W.alloc (Obj.cells #[.int .i64 d.s0, .int .i64 d.s1, .int .i64 d.l0, .int .i64 d.l1, .int .i64 d.i0, .int .i64 d.i1, pv] 25) = x := ⟨_, rfl⟩
  rw [hw0] at HH HWO EE cur ⊢
  clear hw0
  refine HWO.out.mono ?_
  rintro e wn ⟨lv, uv, rfl, hL, hU, hE⟩
  obtain ⟨_, _, al, cl, rfl, _⟩ := id hL
  obtain ⟨_, _, au, cu, rfl, _⟩ := id hU
  have HL := Lib.hid hL
  have HU := Lib.hid hU
  have EX := hE
  replace cur := d7_later hE cur
  have E2 := Ext.refl wn
  obtain ⟨w2, hw2⟩ : ∃ x, wn = x := ⟨_, rfl⟩
  rw [hw2] at E2 HL HU
  have E2 : Ext w2 wn := by rw [hw2]; exact Ext.refl _
  clear hL hU hE hw2 HWO
  go_wp2_with fail
  go_region_held3 (fun w' => w'.cell? ⟨dB, 0, none⟩ = some (.int .i64 d.s0) ∧ w'.cell? ⟨dB, 1, none⟩ = some (.int .i64 d.s1) ∧ w'.cell? ⟨dB, 2, none⟩ = some (.int .i64 d.l0) ∧ w'.cell? ⟨dB, 3, none⟩ = some (.int .i64 d.l1) ∧ w'.cell? ⟨dB, 4, none⟩ = some (.int .i64 d.i0) ∧ w'.cell? ⟨dB, 5, none⟩ = some (.int .i64 d.i1) ∧ w'.cell? ⟨dB, 6, none⟩ = some (pv))
    (first | exact cur | exact d7_drew cur | exact d7_alloc cur | exact d7_drew (d7_alloc cur) | exact d7_drew (d7_alloc (d7_alloc cur)) | exact d7_alloc (d7_alloc cur) | go_keep)
    (first
      | (go_at_call 27
         refine (kT2 15 _ _ _ _ _ _ A1 A2 (by first | omega | (simp only [Tm.size]; omega))).mono ?_
         rintro e wn ⟨vj, rfl, J1, hE⟩
         obtain ⟨ajJ1, mjJ1, cjJ1, rfl⟩ := J1.val
         replace E2 := E2.trans hE
         replace A1 := A1.ext hE
         replace A2 := A2.ext hE
         replace cur := d7_later hE cur
         replace EX := EX.trans hE
         clear hE)
      | (go_at_call 28
         with_reducible refine (P1.out _).mono ?_
         rintro e wn ⟨vp, rfl, A1, hE⟩
         obtain ⟨ap1, mp1, cp1, rfl⟩ := A1.val
         replace E2 := E2.trans hE
         try replace A2 := A2.ext hE
         replace cur := d7_later hE cur
         replace EX := EX.trans hE
         clear hE)
      | (go_at_call 28
         with_reducible refine (P2.out _).mono ?_
         rintro e wn ⟨vp, rfl, A2, hE⟩
         obtain ⟨ap2, mp2, cp2, rfl⟩ := A2.val
         replace E2 := E2.trans hE
         try replace A1 := A1.ext hE
         replace cur := d7_later hE cur
         replace EX := EX.trans hE
         clear hE)
      | (go_at_call 28
         with_reducible refine (D1.out _).mono ?_
         rintro e wn ⟨vp, rfl, A1, hE⟩
         obtain ⟨ap1, mp1, cp1, rfl⟩ := A1.val
         replace E2 := E2.trans hE
         try replace A2 := A2.ext hE
         replace cur := d7_later hE cur
         replace EX := EX.trans hE
         clear hE)
      | (go_at_call 28
         with_reducible refine (D2.out _).mono ?_
         rintro e wn ⟨vp, rfl, A2, hE⟩
         obtain ⟨ap2, mp2, cp2, rfl⟩ := A2.val
         replace E2 := E2.trans hE
         try replace A1 := A1.ext hE
         replace cur := d7_later hE cur
         replace EX := EX.trans hE
         clear hE)
      | (go_at_call 26
         refine (HH.out _ _ _ _ EX J1 _ _ (F0.out) (by omega) (by omega) B0.out).mono ?_
         rintro e wn ⟨rfl, hE⟩
         replace E2 := E2.trans hE
         replace cur := d7_later hE cur
         replace EX := EX.trans hE
         clear hE
         clear J1 A1 A2))
  all_goals
    go_wp2_with fail
    refine (K2.out _).mono ?_
    rintro e wz ⟨rfl, rfl⟩
    go_wp2_with fail
    refine (column_any _ LA q2 false _ (by rw [HLL.out]; exact lx_ext (E := Bools) (fun h hx => bools_ext h hx) HL.out E2) HLA.out hq32 (by rw [HLL.out]; omega)).mono ?_
    rintro e wz ⟨vRA, rfl, ho, hE⟩
    rw [HLL.out] at ho
    have RA := Lib.hid ho.reads
    obtain ⟨aRA, cRA, rfl, _⟩ := id RA.out
    clear ho
    replace E2 := E2.trans hE
    replace EX := EX.trans hE
    clear hE
    obtain ⟨wn, rfl⟩ : ∃ x, x = wz := ⟨_, rfl⟩
    generalize hC2 : colL LA q2 false = C2 at *
    clear hC2
    go_wp2_with fail
    refine (K1.out _).mono ?_
    rintro e wz ⟨rfl, rfl⟩
    go_wp2_with fail
    refine (column_any _ LA q1 true _ (by rw [HLL.out]; exact lx_ext (E := Bools) (fun h hx => bools_ext h hx) HL.out E2) HLA.out hq31 (by rw [HLL.out]; omega)).mono ?_
    rintro e wz ⟨vRB, rfl, ho, hE⟩
    rw [HLL.out] at ho
    have RB := Lib.hid ho.reads
    obtain ⟨aRB, cRB, rfl, _⟩ := id RB.out
    clear ho
    replace E2 := E2.trans hE
    replace EX := EX.trans hE
    replace RA := Lib.hid (RA.out.ext hE)
    clear hE
    obtain ⟨wn, rfl⟩ : ∃ x, x = wz := ⟨_, rfl⟩
    generalize hC1 : colL LA q1 true = C1 at *
    clear hC1
    have HLN := Lib.hid (show (List.zipWith (fun a b => a && !b) C2 C1).length = N by simp [HC1.out, HC2.out])
    have HLT := Lib.hid (show (List.zipWith (fun a b => a && b) C2 C1).length = N by simp [HC1.out, HC2.out])
    have HZN := Lib.hid fun (i : Nat) (x y : Bool) (hx : C2[i]? = some x) (hy : C1[i]? = some y) => zip_at (fun a b => a && !b) hx hy
    have HZT := Lib.hid fun (i : Nat) (x y : Bool) (hx : C2[i]? = some x) (hy : C1[i]? = some y) => zip_at (fun a b => a && b) hx hy
    generalize List.zipWith (fun a b => a && !b) C2 C1 = LN at *
    generalize List.zipWith (fun a b => a && b) C2 C1 = LT at *
    go_wp2_with (at_make; go_must (refine wpList_make_full _ rfl _ _ 53 rfl wn.heap.size 4 (Tryz.slBoolsS.inf.choose) (.bool false) 1 Tryz.underlying53 Tryz.slBoolsS.inf.choose_spec.1 Tryz.slBoolsS.inf.choose_spec.2.1 Tryz.slBoolsS.inf.choose_spec.2.2.1 .i64 .i64 N N N rfl rfl rfl rfl (by rw [Tryz.slBoolsS.inf.choose_spec.2.2.2]; omega) (by unfold maxLen; omega) (Nat.le_refl _) ?_))
    intro w4 hown4 hg4
    rw [made_false, show List.replicate N false = fillB LN 0 by unfold fillB; simp [HLN.out]] at hown4
    have HO4 := Lib.hid hown4
    have HX4 := Lib.hid ((Ext.refl wn).grown hg4 (Nat.le_refl _) (by simp))
    obtain ⟨D1, hD1⟩ : ∃ D, wn.heap.size = D := ⟨_, rfl⟩
    have HD1 := Lib.hid hD1
    rw [hD1] at HO4 ⊢
    have hlt1 : D1 < w4.heap.size := (hown4.lt D1 (by rw [hD1]; rfl)).2
    clear hown4 hg4 hD1
    go_wp2_with (at_make; go_must (refine wpList_make_full _ rfl _ _ 53 rfl w4.heap.size 4 (Tryz.slBoolsS.inf.choose) (.bool false) 1 Tryz.underlying53 Tryz.slBoolsS.inf.choose_spec.1 Tryz.slBoolsS.inf.choose_spec.2.1 Tryz.slBoolsS.inf.choose_spec.2.2.1 .i64 .i64 N N N rfl rfl rfl rfl (by rw [Tryz.slBoolsS.inf.choose_spec.2.2.2]; omega) (by unfold maxLen; omega) (Nat.le_refl _) ?_))
    intro w5 hown5 hg5
    rw [made_false, show List.replicate N false = fillB LT 0 by unfold fillB; simp [HLT.out]] at hown5
    have hx5 := (Ext.refl w4).grown hg5 (Nat.le_refl _) (by simp)
    have HO5 := Lib.hid (own_ext HO4.out hx5)
    have HX5 := Lib.hid (Ext.trans HX4.out hx5)
    obtain ⟨D2, hD2⟩ : ∃ D, w4.heap.size = D := ⟨_, rfl⟩
    rw [hD2] at hown5 hlt1 ⊢
    have HP5 := Lib.hid hown5
    clear hown5 hg5 hD2 hx5 HO4 HX4
    go_wp2_with fail
    go_loopg [17] N (fun g x wr => ∃ i : Nat, g + i = N ∧ x = .int .i64 (i : Int) ∧ Ext wn wr ∧ wr.ownsRow D1 4 1 (.slice (some ⟨D1, 0, none⟩) N N) N ((fillB LN i).map .bool) ∧ wr.ownsRow D2 4 1 (.slice (some ⟨D2, 0, none⟩) N N) N ((fillB LT i).map .bool))
    case atStart => exact ⟨0, by omega, by go_num, HX5.out, HO5.out, HP5.out⟩
    case round =>
      obtain ⟨i, hgi, rfl, hE, hO, hP⟩ := hrel
      have HGI := Lib.hid hgi
      have HEw := Lib.hid hE
      have HO := Lib.hid hO
      have HP := Lib.hid hP
      clear hgi hE hO hP HO5 HX5 HP5
      by_cases hi : i < N
      · have h1 : C2[i]? = some (C2[i]'(by rw [HC2.out]; exact hi)) := List.getElem?_eq_getElem _
        have h2 : C1[i]? = some (C1[i]'(by rw [HC1.out]; exact hi)) := List.getElem?_eq_getElem _
        generalize C2[i]'(by rw [HC2.out]; exact hi) = x at *
        generalize C1[i]'(by rw [HC1.out]; exact hi) = y at *
        obtain ⟨bA, oA, e1, k1⟩ := bool_at RA.out h1
        obtain ⟨bB, oB, e2, k2⟩ := bool_at RB.out h2
        subst e1
        subst e2
        have HSN := Lib.hid (HZN.out i x y h1 h2)
        have HST := Lib.hid (HZT.out i x y h1 h2)
        have f1 := own_freeAt HO.out i
        have d1 := own_cellAt HO.out (i := i) (by rw [List.length_map, fillB_len (by rw [HLN.out]; omega), HLN.out]; exact hi)
        generalize ((fillB LN i).map Value.bool)[i]'_ = z1 at d1
        have HSO := Lib.hid (own_setAt HO.out (i := i) (.bool (x && !y)))
        have HP6 := Lib.hid (own_setCell HP.out (p := ⟨D1, i, none⟩) (.bool (x && !y)) (fun e => by simp [Value.ownBlock] at e; omega))
        have f2 := own_freeAt HP6.out i
        have d2 := own_cellAt HP6.out (i := i) (by rw [List.length_map, fillB_len (by rw [HLT.out]; omega), HLT.out]; exact hi)
        generalize ((fillB LT i).map Value.bool)[i]'_ = z2 at d2
        have HSP := Lib.hid (own_setAt HP6.out (i := i) (.bool (x && y)))
        have HSO2 := Lib.hid (own_setCell HSO.out (p := ⟨D2, i, none⟩) (.bool (x && y)) (fun e => by simp [Value.ownBlock] at e; omega))
        have HE6 := Lib.hid (ext_st HEw.out (p := ⟨D1, i, none⟩) (by rw [HD1.out]; exact Nat.le_refl _) (.bool (x && !y)))
        have HEX := Lib.hid (ext_st HE6.out (p := ⟨D2, i, none⟩) (by rw [HD1.out]; exact Nat.le_of_lt hlt1) (.bool (x && y)))
        have HFN := Lib.hid (show ((fillB LN i).map Value.bool).set i (.bool (x && !y)) = (fillB LN (i + 1)).map Value.bool from fillB_put HSN.out)
        have HFT := Lib.hid (show ((fillB LT i).map Value.bool).set i (.bool (x && y)) = (fillB LT (i + 1)).map Value.bool from fillB_put HST.out)
        rw [HFN.out] at HSO2
        rw [HFT.out] at HSP
        have hiI : (i : Int) < (N : Int) := by omega
        have hi0 : (0 : Int) ≤ (i : Int) := by omega
        have c1 := cell_later HEw.out k1
        have c2 := cell_later HEw.out k2
        have g1 := cell_later HE6.out k1
        have g2 := cell_later HE6.out k2
        clear h1 h2 k1 k2 HSN HST HFN HFT HP HO HP6 HSO
        cases x
        all_goals cases y
        all_goals
          simp only [Bool.not_true, Bool.not_false, Bool.and_true, Bool.and_false] at f2 d2 g1 g2
          go_wp2_with fail
          go_roundg (gk - 1)
          case measure => have := HGI.out; omega
          case rel => exact ⟨i + 1, by have := HGI.out; omega, by go_num, HEX.out, HSO2.out, HSP.out⟩
      · obtain rfl : i = N := by have := HGI.out; omega
        have hiI : ¬ (i : Int) < (i : Int) := by omega
        have hO := HO.out.reads
        have hP := HP.out.reads
        rw [show fillB LN i = LN by rw [← HLN.out]; exact fillB_all LN] at hO
        rw [show fillB LT i = LT by rw [← HLT.out]; exact fillB_all LT] at hP
        have RN := Lib.hid hO
        have RT := Lib.hid hP
        have hE := HEw.out
        replace E2 := E2.trans hE
        replace EX := EX.trans hE
        clear hE hO hP HO HP HEw HD1
        obtain ⟨N, rfl⟩ : ∃ x, x = i := ⟨_, rfl⟩
        obtain ⟨wn, rfl⟩ : ∃ x, x = wr := ⟨_, rfl⟩
        go_wp2_with fail
        refine (leadsTo_any _ _ _ NA LT LN _ (by rw [HNN.out]; exact lx_ext (E := Ints) (fun h hx => h.ext hx) HU.out E2) (by unfold Bools; rw [HLT.out]; exact RT.out) (by unfold Bools; rw [HLN.out]; exact RN.out) (by rw [HNN.out]; exact HLN.out.symm) (by rw [HLT.out]; exact HLN.out.symm) (by rw [HLN.out]; omega) (by rw [HLN.out]; omega) (by rw [HLN.out]; exact HNA.out) HNL.out).mono ?_
        unfold SetR
        rintro e wz ⟨vRS, iRS, rfl, ho, hlRS, hmRS, hE⟩
        rw [HLN.out] at ho hlRS
        have RS := Lib.hid ho.reads
        have LRS := Lib.hid hlRS
        have MRS := Lib.hid hmRS
        obtain ⟨aRS, cRS, rfl, _⟩ := id RS.out
        clear ho hlRS hmRS
        replace E2 := E2.trans hE
        replace EX := EX.trans hE
        replace RN := Lib.hid (RN.out.ext hE)
        replace RT := Lib.hid (RT.out.ext hE)
        clear hE
        obtain ⟨wn, rfl⟩ : ∃ x, x = wz := ⟨_, rfl⟩
        go_wp2_with fail
        refine (grows_any _ _ NA LT _ (by rw [HNN.out]; exact lx_ext (E := Ints) (fun h hx => h.ext hx) HU.out E2) (by unfold Bools; rw [HLT.out]; exact RT.out) (by rw [HNN.out]; exact HLT.out.symm) (by rw [HLT.out]; omega) (by rw [HLT.out]; omega) (by rw [HLT.out]; exact HNA.out) HNL.out).mono ?_
        unfold SetR
        rintro e wz ⟨vRG, iRG, rfl, ho, hlRG, hmRG, hE⟩
        rw [HLT.out] at ho hlRG
        have RG := Lib.hid ho.reads
        have LRG := Lib.hid hlRG
        have MRG := Lib.hid hmRG
        obtain ⟨aRG, cRG, rfl, _⟩ := id RG.out
        clear ho hlRG hmRG
        replace E2 := E2.trans hE
        replace EX := EX.trans hE
        replace RN := Lib.hid (RN.out.ext hE)
        replace RT := Lib.hid (RT.out.ext hE)
        replace RS := Lib.hid (RS.out.ext hE)
        clear hE
        obtain ⟨wn, rfl⟩ : ∃ x, x = wz := ⟨_, rfl⟩
        have hgi : fi < iRS.length := by rw [LRS.out]; exact hfN
        have hh : iRS[fi]? = some iRS[fi] := List.getElem?_eq_getElem hgi
        generalize iRS[fi] = bs at *
        have hgi2 : fi < iRG.length := by rw [LRG.out]; exact hfN
        have hh2 : iRG[fi]? = some iRG[fi] := List.getElem?_eq_getElem hgi2
        generalize iRG[fi] = bg at *
        obtain ⟨bbRS, ooRS, e1, ccRS⟩ := bool_at RS.out hh
        subst e1
        obtain ⟨bbRG, ooRG, e2, ccRG⟩ := bool_at RG.out hh2
        subst e2
        have hbs := HME.out iRS iRG bs bg LRS.out MRS.out LRG.out MRG.out (by rw [HMB.out]; exact hh) (by rw [HMB.out]; exact hh2)
        have hfI : (fi : Int) < (N : Int) := by omega
        have hf0 : (0 : Int) ≤ (fi : Int) := by omega
        have HEF := Lib.hid (EE.trans EX)
        clear cur EX E2 HH
        subst hbs
        cases bs
        all_goals cases bg
        all_goals
          go_wp2
          go_ret
          exact ⟨rfl, HEF.out⟩

end Go.Proofs.YtbmimdnpchldlaaGreatDoor
