/- The law TopAgain. -/
import Derived.Test.YtbmimdnpchldlaaGreatDoorKt16
namespace Go.Proofs.YtbmimdnpchldlaaGreatDoor
open Go.RowKit

set_option maxRecDepth 100000 in
set_option maxHeartbeats 16000000 in
theorem topAgain_law (cs : Array Value) (v1 : Value) (W : World) (ht : Tab W) (h0 : Cells Tryz.prog W 25 cs.toList) (h1 : Cells Tryz.prog W 3 [v1]) :
    Calls Tryz.prog 7 #[.agg cs, v1] W fun e w' => e = .returned (.bool true) ∧ Ext W w' := by
  obtain ⟨d, pv, rfl, hpl, hd⟩ := design_of h0
  obtain ⟨n1, e1, i1⟩ := h1.i64 Tryz.underlying3
  cases e1
  have EE := ext_al (Ext.refl W) (Obj.cells (dnc d pv) 25)
  have HB := blk_new W (Obj.cells (dnc d pv) 25)
  obtain ⟨N, hN⟩ : ∃ N : Nat, countL d.md.vars = (N : Int) := ⟨(countL d.md.vars).toNat, by have := d.drawn.n1; omega⟩
  have hN1 : 1 ≤ N := by have := d.drawn.n1; omega
  have hN16 : N ≤ 16 := by have := d.drawn.n16; omega
  have hPre := d.drawn.ok.toPre
  have HWO := Lib.hid (world_any pv d _ (ht.ext EE) (hpl.ext EE) hd N hN)
  have HH := Lib.hid fun (fv : Value) (t : Tm) (wx : World) (b : Bool) (hx : Ext (W.alloc (Obj.cells (dnc d pv) 25)) wx) (hf : IsT wx fv t) (a c : Nat) (hF : Fm t a c) (ha : a ≤ 60) (hc : c ≤ 6) (hb : holdsB d.md propT t = b) => tholds_b pv fv d t wx ((ht.ext EE).ext hx) ((hpl.ext EE).ext hx) hd hf hF ha hc b hb
  have P1 := Lib.hid fun wx => prop_any n1 wx i1.1 i1.2
  have D1 := Lib.hid fun wx => prop_d n1 wx i1.1 i1.2
  have K1 := Lib.hid fun wx => kpicked_any n1 3 wx i1.1 i1.2 (by omega) (by omega)
  have hk1 := pk_bd n1 3 (by omega)
  obtain ⟨q1, hq1⟩ : ∃ q : Nat, pk n1 3 = (q : Int) := ⟨(pk n1 3).toNat, by omega⟩
  rw [hq1] at P1 D1 K1 hk1
  have hq31 : q1 < 3 := by omega
  clear hq1 hk1
  obtain ⟨hcN, hFi⟩ := codes_in hPre hN
  have HLA := Lib.hid (fun l hl => letA_three (m := d.md) (N := N) (l := l) hl)
  have HNA := Lib.hid (nextA_in (m := d.md) (N := N) hcN)
  have HNL := Lib.hid (nextA_lens (m := d.md) N (by have := d.drawn.five; omega))
  have hMC := col_not (m := d.md) (P := propT) (N := N) (q1 : Int)
  rw [show ((q1 : Int)).toNat = q1 by omega] at hMC
  obtain ⟨b0, hb0⟩ : ∃ b, holdsB d.md propT (.n1 18 0 (.n1 17 0 (.n0 13 (q1 : Int)))) = b := ⟨_, rfl⟩
  have B0 := Lib.hid hb0
  have HME := Lib.hid fun (k l : List Bool) (b : Bool) (hk : k.length = N) (hmk : ∀ c : Nat, k[c]? = some true ↔ StayI (nextA d.md N) (colL (letA d.md propT N) q1 false) c) (hl : l.length = N) (hm : ∀ c : Nat, l[c]? = some true ↔ LeadI (nextA d.md N) (List.replicate N true) k c) (hg : l[d.md.first.toNat]? = some b) => hb0.symm.trans (again_b hPre hN (v := (q1 : Int)) (lead_marks hcN (MarksS.all N) (stay_marks hcN hMC hmk hk) hm hl) hg)
  have HCL := Lib.hid (show (colL (letA d.md propT N) q1 false).length = N by simp [colL, letA_len])
  have HAL := Lib.hid fun wx => all_any N wx (by omega) (by omega)
  have HLR := Lib.hid (show (List.replicate N true).length = N by simp)
  have F0 := Lib.hid (((fm_prop hq31).one 17 2 1 (.inr ⟨by omega, by omega⟩) (by omega)).one 18 3 2 (.inr ⟨by omega, by omega⟩) (by omega))
  clear hb0 hMC
  have HLL := Lib.hid (letA_len d.md propT N)
  have HNN := Lib.hid (nextA_len d.md N)
  obtain ⟨fi, hfi⟩ : ∃ fi : Nat, d.md.first = (fi : Int) := ⟨d.md.first.toNat, by have := hFi.1; omega⟩
  have hfN : fi < N := by have := hFi.2; omega
  have HMB := Lib.hid (show d.md.first.toNat = fi by omega)
  rw [hfi] at HWO
  simp only [dnc] at HH HWO EE HB ⊢
  generalize letA d.md propT N = LA at *
  generalize nextA d.md N = NA at *
  have cur := d7_of HB
  clear ht hpl hd HB h0 hN hPre hcN hFi hfi h1 i1
  go_enter Tryz.func7, Tryz.ntmps7
  go_wp2_with fail
  obtain ⟨dB, hdB⟩ : ∃ x, W.heap.size = x := ⟨_, rfl⟩
  rw [hdB] at cur ⊢
  clear hdB
  obtain ⟨w0, hw0⟩ : ∃ x, W.alloc (Obj.cells #[.int .i64 d.s0, .int .i64 d.s1, .int .i64 d.l0, .int .i64 d.l1, .int .i64 d.i0, .int .i64 d.i1, pv] 25) = x := ⟨_, rfl⟩
  rw [hw0] at HH HWO EE cur ⊢
  clear hw0
  refine HWO.out.mono ?_
  rintro e wn ⟨lv, uv, rfl, hL, hU, hE⟩
  obtain ⟨_, _, al, cl, rfl, _⟩ := id hL
  obtain ⟨_, _, au, cu, rfl, _⟩ := id hU
  have HL := Lib.hid hL
  have HU := Lib.hid hU
  have EX := hE
  replace cur := d7_later hE cur
  have E2 := Ext.refl wn
  obtain ⟨w2, hw2⟩ : ∃ x, wn = x := ⟨_, rfl⟩
  rw [hw2] at E2 HL HU
  have E2 : Ext w2 wn := by rw [hw2]; exact Ext.refl _
  clear hL hU hE hw2 HWO
  go_wp2_with fail
  go_region_held3 (fun w' => w'.cell? ⟨dB, 0, none⟩ = some (.int .i64 d.s0) ∧ w'.cell? ⟨dB, 1, none⟩ = some (.int .i64 d.s1) ∧ w'.cell? ⟨dB, 2, none⟩ = some (.int .i64 d.l0) ∧ w'.cell? ⟨dB, 3, none⟩ = some (.int .i64 d.l1) ∧ w'.cell? ⟨dB, 4, none⟩ = some (.int .i64 d.i0) ∧ w'.cell? ⟨dB, 5, none⟩ = some (.int .i64 d.i1) ∧ w'.cell? ⟨dB, 6, none⟩ = some (pv))
    (first | exact cur | exact d7_drew cur | exact d7_alloc cur | exact d7_drew (d7_alloc cur) | exact d7_drew (d7_alloc (d7_alloc cur)) | exact d7_alloc (d7_alloc cur) | go_keep)
    (first
      | (go_at_call 27
         have hq := J1
         clear hq
         refine (kT1 18 _ _ _ _ J1 (by first | omega | (simp only [Tm.size]; omega))).mono ?_
         rintro e wn ⟨vj, rfl, J2, hE⟩
         obtain ⟨ajJ2, mjJ2, cjJ2, rfl⟩ := J2.val
         replace E2 := E2.trans hE
         replace A1 := A1.ext hE
         replace J1 := J1.ext hE
         replace cur := d7_later hE cur
         replace EX := EX.trans hE
         clear hE)
      | (go_at_call 27
         refine (kT1 17 _ _ _ _ A1 (by first | omega | (simp only [Tm.size]; omega))).mono ?_
         rintro e wn ⟨vj, rfl, J1, hE⟩
         obtain ⟨ajJ1, mjJ1, cjJ1, rfl⟩ := J1.val
         replace E2 := E2.trans hE
         replace A1 := A1.ext hE
         replace cur := d7_later hE cur
         replace EX := EX.trans hE
         clear hE)
      | (go_at_call 28
         with_reducible refine (P1.out _).mono ?_
         rintro e wn ⟨vp, rfl, A1, hE⟩
         obtain ⟨ap1, mp1, cp1, rfl⟩ := A1.val
         replace E2 := E2.trans hE
         replace cur := d7_later hE cur
         replace EX := EX.trans hE
         clear hE)
      | (go_at_call 28
         with_reducible refine (D1.out _).mono ?_
         rintro e wn ⟨vp, rfl, A1, hE⟩
         obtain ⟨ap1, mp1, cp1, rfl⟩ := A1.val
         replace E2 := E2.trans hE
         replace cur := d7_later hE cur
         replace EX := EX.trans hE
         clear hE)
      | (go_at_call 26
         refine (HH.out _ _ _ _ EX J2 _ _ (F0.out) (by omega) (by omega) B0.out).mono ?_
         rintro e wn ⟨rfl, hE⟩
         replace E2 := E2.trans hE
         replace cur := d7_later hE cur
         replace EX := EX.trans hE
         clear hE
         clear J1 J2 A1))
  go_wp2_with fail
  refine (K1.out _).mono ?_
  rintro e wz ⟨rfl, rfl⟩
  go_wp2_with fail
  refine (column_any _ LA q1 false _ (by rw [HLL.out]; exact lx_ext (E := Bools) (fun h hx => bools_ext h hx) HL.out E2) HLA.out hq31 (by rw [HLL.out]; omega)).mono ?_
  rintro e wz ⟨vRC, rfl, ho, hE⟩
  rw [HLL.out] at ho
  have RC := Lib.hid ho.reads
  obtain ⟨aRC, cRC, rfl, _⟩ := id RC.out
  clear ho
  replace E2 := E2.trans hE
  replace EX := EX.trans hE
  clear hE
  obtain ⟨wn, rfl⟩ : ∃ x, x = wz := ⟨_, rfl⟩
  generalize colL LA q1 false = CL at *
  go_wp2_with fail
  refine (grows_any _ _ NA CL _ (by rw [HNN.out]; exact lx_ext (E := Ints) (fun h hx => h.ext hx) HU.out E2) (by unfold Bools; rw [HCL.out]; exact RC.out) (by rw [HNN.out]; exact HCL.out.symm) (by rw [HCL.out]; omega) (by rw [HCL.out]; omega) (by rw [HCL.out]; exact HNA.out) HNL.out).mono ?_
  unfold SetR
  rintro e wz ⟨vRS, iRS, rfl, ho, hlRS, hmRS, hE⟩
  rw [HCL.out] at ho hlRS
  have RS := Lib.hid ho.reads
  have LRS := Lib.hid hlRS
  have MRS := Lib.hid hmRS
  obtain ⟨aRS, cRS, rfl, _⟩ := id RS.out
  clear ho hlRS hmRS
  replace E2 := E2.trans hE
  replace EX := EX.trans hE
  replace RC := Lib.hid (RC.out.ext hE)
  clear hE
  obtain ⟨wn, rfl⟩ : ∃ x, x = wz := ⟨_, rfl⟩
  go_wp2_with fail
  refine (HAL.out _).mono ?_
  rintro e wz ⟨vRT, rfl, ho, hE⟩
  have RT := Lib.hid ho.reads
  obtain ⟨aRT, cRT, rfl, _⟩ := id RT.out
  clear ho
  replace E2 := E2.trans hE
  replace EX := EX.trans hE
  replace RC := Lib.hid (RC.out.ext hE)
  replace RS := Lib.hid (RS.out.ext hE)
  clear hE
  obtain ⟨wn, rfl⟩ : ∃ x, x = wz := ⟨_, rfl⟩
  go_wp2_with fail
  refine (leadsTo_any _ _ _ NA (List.replicate N true) iRS _ (by rw [HNN.out]; exact lx_ext (E := Ints) (fun h hx => h.ext hx) HU.out E2) (by unfold Bools; rw [HLR.out]; exact RT.out) (by unfold Bools; rw [LRS.out]; exact RS.out) (by rw [HNN.out]; exact LRS.out.symm) (by rw [HLR.out]; exact LRS.out.symm) (by rw [LRS.out]; omega) (by rw [LRS.out]; omega) (by rw [LRS.out]; exact HNA.out) HNL.out).mono ?_
  unfold SetR
  rintro e wz ⟨vRL, iRL, rfl, ho, hlRL, hmRL, hE⟩
  rw [LRS.out] at ho hlRL
  have RL := Lib.hid ho.reads
  have LRL := Lib.hid hlRL
  have MRL := Lib.hid hmRL
  obtain ⟨aRL, cRL, rfl, _⟩ := id RL.out
  clear ho hlRL hmRL
  replace E2 := E2.trans hE
  replace EX := EX.trans hE
  replace RC := Lib.hid (RC.out.ext hE)
  replace RS := Lib.hid (RS.out.ext hE)
  replace RT := Lib.hid (RT.out.ext hE)
  clear hE
  obtain ⟨wn, rfl⟩ : ∃ x, x = wz := ⟨_, rfl⟩
  have hgi : fi < iRL.length := by rw [LRL.out]; exact hfN
  have hh : iRL[fi]? = some iRL[fi] := List.getElem?_eq_getElem hgi
  generalize iRL[fi] = bs at *
  obtain ⟨bbRL, ooRL, rfl, ccRL⟩ := bool_at RL.out hh
  have hbs := HME.out iRS iRL bs LRS.out MRS.out LRL.out MRL.out (by rw [HMB.out]; exact hh)
  have hfI : (fi : Int) < (N : Int) := by omega
  have hf0 : (0 : Int) ≤ (fi : Int) := by omega
  have HEF := Lib.hid (EE.trans EX)
  clear cur EX E2 HH
  subst hbs
  go_wp2
  go_ret
  exact ⟨rfl, HEF.out⟩

end Go.Proofs.YtbmimdnpchldlaaGreatDoor
