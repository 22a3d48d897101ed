/- The law TopChoice. -/
import Derived.Test.YtbmimdnpchldlaaDoorTopRB
namespace Go.Proofs.YtbmimdnpchldlaaDoor
open Go.RowKit

set_option maxRecDepth 100000 in
set_option maxHeartbeats 16000000 in
theorem topChoice_law (v0 v1 : Value) (W : World) (ht : Tab W) (h0 : Cells Tryd.prog W 3 [v0]) (h1 : Cells Tryd.prog W 3 [v1]) :
    Calls Tryd.prog 5 #[v0, v1] W fun e w' => e = .returned (.bool true) ∧ Ext W w' := by
  obtain ⟨n1, e1, i1⟩ := h0.i64 Tryd.underlying3
  cases e1
  obtain ⟨n2, e2, i2⟩ := h1.i64 Tryd.underlying3
  cases e2
  have hk1 := pk_bd n1 8 (by omega)
  have K1 := Lib.hid fun wx => kpicked_any n1 8 wx i1.1 i1.2 (by omega) (by omega)
  obtain ⟨p, hp⟩ : ∃ p, pk n1 8 = p := ⟨_, rfl⟩
  rw [hp] at K1 hk1
  obtain ⟨M, hM⟩ : ∃ M : Nat, 2 + p = (M : Int) := ⟨(2 + p).toNat, by omega⟩
  have h2 : 2 ≤ M := by omega
  have h9 : M ≤ 9 := by omega
  have hk2 := pk_bd n2 ((M : Int) - 1) (by omega)
  have K2 := Lib.hid fun wx => kpicked_any n2 ((M : Int) - 1) wx i2.1 i2.2 (by omega) (by omega)
  obtain ⟨q, hq⟩ : ∃ q, pk n2 ((M : Int) - 1) = q := ⟨_, rfl⟩
  rw [hq] at K2 hk2
  obtain ⟨V, hV⟩ : ∃ V : Nat, 1 + q = (V : Int) := ⟨(1 + q).toNat, by omega⟩
  have hv1 : 1 ≤ V := by omega
  have hvM : V < M := by omega
  have HM := Lib.hid hM
  have HV := Lib.hid hV
  have HR := Lib.hid fun wx => ring_any M wx h2 h9
  have fp := fq_prop
  have f1 : Fq (.n1 17 0 (.n0 13 0)) 2 1 := fp.one 17 2 1 (.inr ⟨by omega, by omega⟩) (by omega)
  have f2 : Fq (.n1 18 0 (.n1 10 0 (.n0 13 0))) 3 1 := (fp.one 10 2 0 (.inl ⟨by omega, by omega⟩) (by omega)).one 18 3 1 (.inr ⟨by omega, by omega⟩) (by omega)
  have f3 : Fq (.n2 9 0 (.n1 17 0 (.n0 13 0)) (.n1 17 0 (.n1 18 0 (.n1 10 0 (.n0 13 0))))) 7 3 := f1.two (f2.one 17 4 2 (.inr ⟨by omega, by omega⟩) (by omega)) 9 7 3 ⟨by omega, by omega⟩ (by omega)
  have hpk := ring_prop h2 h9 (v := (V : Int)) (by omega) (by omega)
  have HC := Lib.hid fun (t : Tm) (a c : Nat) (ft : Fq t a c) (ha : a ≤ 60) (hc : c ≤ 6) vv rv qv fv wx (hT : IsTask wx vv rv qv fv (choiceM M) [ringT (V : Int)] t) (hb : Tab wx) =>
    verdict_any vv rv qv fv (choiceM M) [ringT (V : Int)] t wx hT hb ⟨choice_ok h2 h9, (show 0 < 1 by omega), hpk, ft.isF ha hc⟩ M (ring_count h2 h9) (pow_room h9 (Nat.le_trans ft.cnt hc))
  have B1 := Lib.hid fun (b : Bool) (h : b = true ↔ HoldsR (choiceM M) [ringT (V : Int)] (.n1 17 0 (.n0 13 0))) => (vb_eq h (choice_ever h2 h9 hv1 hvM)).symm
  have B2 := Lib.hid fun (b : Bool) (h : b = true ↔ HoldsR (choiceM M) [ringT (V : Int)] (.n1 18 0 (.n1 10 0 (.n0 13 0)))) => (vb_eq h (choice_never h2 h9 hvM)).symm
  have B3 := Lib.hid fun (b : Bool) (h : b = true ↔ HoldsR (choiceM M) [ringT (V : Int)] (.n2 9 0 (.n1 17 0 (.n0 13 0)) (.n1 17 0 (.n1 18 0 (.n1 10 0 (.n0 13 0)))))) => (vb_eq h (ever_or_never _ _ _)).symm
  have F1 := Lib.hid f1
  have F2 := Lib.hid f2
  have F3 := Lib.hid f3
  have HT := Lib.hid ht
  obtain ⟨hp0, hp8⟩ := hk1
  obtain ⟨hq0, hq1⟩ := hk2
  clear h0 h1 i1 i2 hp hM hV hpk f1 f2 f3 fp ht hq
  go_enter Tryd.func5, Tryd.ntmps5
  go_wp2_with fail
  refine (K1.out _).mono ?_
  rintro e wz ⟨rfl, rfl⟩
  go_upto_region 2 with fail
  rw [HM.out]
  go_wp2_with fail
  refine (K2.out _).mono ?_
  rintro e wz ⟨rfl, rfl⟩
  go_upto_region 3 with fail
  rw [HV.out]
  go_wp2_with fail
  refine (HR.out _).mono ?_
  rintro e w1 ⟨av, cv, ar, rfl, hm1, hE1⟩
  go_wp2_with fail
  refine (kRing (V : Int) w1 _ _ _).mono ?_
  rintro e w2 ⟨vp, rfl, hP2, hE2⟩
  obtain ⟨ap, np, cp, rfl⟩ := hP2.val
  have hx3 := ext_al (Ext.refl w2) (Obj.cells #[.slice ap np cp] 32)
  have HPR := Lib.hid (isTms_one 32 hP2)
  have HMD := Lib.hid (hm1.ext (hE2.trans hx3))
  have HE3 := Lib.hid (hE1.trans (hE2.trans hx3))
  clear hm1 hE1 hE2 hP2 hx3
  go_upto_region 4 with fail
  obtain ⟨pB, hpB⟩ : ∃ x, w2.heap.size = x := ⟨_, rfl⟩
  have hz3 : (w2.alloc (Obj.cells #[.slice ap np cp] 32)).heap.size = pB + 1 := by rw [World.size_alloc, hpB]
  rw [hpB] at HPR ⊢
  clear hpB
  generalize w2.alloc (Obj.cells #[.slice ap np cp] 32) = w3 at *
  obtain ⟨tB, htB⟩ : ∃ x, pB + 1 = x := ⟨_, rfl⟩
  rw [htB] at hz3 ⊢
  clear htB
  have hx4 := ext_al (Ext.refl w3) (Obj.cells #[.slice av 1 cv, .slice ar 2 2, .slice (some ⟨pB, 0, none⟩) 1 1, .slice none 0 0] 34)
  have TB := Lib.hid (blk_new w3 (Obj.cells #[.slice av 1 cv, .slice ar 2 2, .slice (some ⟨pB, 0, none⟩) 1 1, .slice none 0 0] 34))
  rw [hz3] at TB
  have HX4 := Lib.hid hx4
  have HZ3 := Lib.hid hz3
  clear hx4 hz3
  generalize w3.alloc (Obj.cells #[.slice av 1 cv, .slice ar 2 2, .slice (some ⟨pB, 0, none⟩) 1 1, .slice none 0 0] 34) = w4 at *
  obtain ⟨css, hcl, hc2, hrd, hce⟩ := HMD.out.rules
  obtain ⟨_, _, er, hrow⟩ := id hrd
  simp only [Value.slice.injEq] at er
  obtain ⟨rfl, -, rfl⟩ := er
  have hfl : css.flatten.length = 4 := hrow.len
  obtain ⟨rb, ro, _, hr2, hr3⟩ := hrow.lie
  obtain rfl := hr2 (by omega)
  have HCL := Lib.hid hcl
  have HC2 := Lib.hid hc2
  have HCE := Lib.hid hce
  have hxa := ext_al (Ext.refl w4) (Obj.cells #[.int .i64 11, .int .i64 0] 47)
  have hba := blk_new w4 (Obj.cells #[.int .i64 11, .int .i64 0] 47)
  have hxb := ext_al (Ext.refl (w4.alloc (Obj.cells #[.int .i64 11, .int .i64 0] 47))) (Obj.cells #[.slice (some ⟨w4.heap.size, 0, none⟩) 1 1, .slice none 0 0] 63)
  have hbb := blk_new (w4.alloc (Obj.cells #[.int .i64 11, .int .i64 0] 47)) (Obj.cells #[.slice (some ⟨w4.heap.size, 0, none⟩) 1 1, .slice none 0 0] 63)
  rw [World.size_alloc] at hbb
  have HBB := Lib.hid hbb
  have HXB := Lib.hid (hxa.trans hxb)
  have HBA := Lib.hid (blk_ext hba hxb)
  have HR3 := Lib.hid fun (j : Nat) (u : Value) (hu : css.flatten[j]? = some u) => cell_later (HX4.out.trans HXB.out) (hr3 j u hu)
  have t1 := blk_cell TB.out (i := 1) rfl
  have HFL := Lib.hid hfl
  clear hcl hc2 hrd hce hrow hr2 hr3 hxa hba hxb hbb hfl
  go_wp2_with (at_builtin; go_must (refine wpList_append_grows _ rfl _ _ 28 rfl 63 (Tryd.slRules.inf.choose) (.agg #[.slice none 0 0, .slice none 0 0]) 2 48 Tryd.underlying28 Tryd.slRules.inf.choose_spec.1 Tryd.slRules.inf.choose_spec.2.1 Tryd.slRules.inf.choose_spec.2.2.1 Tryd.slRules.inf.choose_spec.2.2.2 rfl (by omega) (some ⟨rb, ro, none⟩) 2 2 css.flatten rfl (by intro h; cases h) HFL.out (by intro b hb j u hu; cases hb; rw [Addr.add_lit]; exact HR3.out j u hu) ⟨w4.heap.size + 1, 0, none⟩ 1 1 [.slice (some ⟨w4.heap.size, 0, none⟩) 1 1, .slice none 0 0] rfl rfl (by intro j u hu; rw [Addr.add_lit, Nat.zero_add]; exact blk_cell HBB.out (by simpa using hu)) (by intro u hu; simp only [List.mem_cons, List.not_mem_nil, or_false] at hu; rcases hu with rfl | rfl <;> rfl) (by omega) (by unfold maxLen; omega) (by omega) ?_))
  intro v6 w6 hown6 hg6
  have hE6 := HXB.out.trans ((Ext.refl _).grown hg6 (Nat.le_refl _) (by simp))
  have hba6 := blk_ext HBA.out ((Ext.refl _).grown hg6 (Nat.le_refl _) (by simp))
  obtain ⟨a6, c6, rfl, _⟩ := id hown6.row
  have htl := blk_lt TB.out
  have hbt6 := blk_ext TB.out hE6
  have u1 := blk_cell hbt6 (i := 1) rfl
  have f1 := blk_free hbt6 1
  have hbt7 := blk_set (i := 1) hbt6 (.slice a6 3 c6)
  rw [(set4 _ _ _ _ _).2.1] at hbt7
  have hba7 := blk_far hba6 (p := ⟨tB, 1, none⟩) (by show tB ≠ w4.heap.size; omega) (.slice a6 3 c6)
  have hown7 := own_setCell hown6 (p := ⟨tB, 1, none⟩) (.slice a6 3 c6) (fun e => by have h : w4.heap.size + 1 + 1 ≤ tB := (hown6.lt _ e).1; omega)
  have hE7 := ext_st (HX4.out.trans hE6) (p := ⟨tB, 1, none⟩) (by show w3.heap.size ≤ tB; rw [HZ3.out]; exact Nat.le_refl _) (.slice a6 3 c6)
  obtain ⟨G, hG⟩ : ∃ G : World → Prop, G = fun w => Ext w3 w ∧ w.ownsRow (w4.heap.size + 1 + 1) 63 2 (.slice a6 3 c6) 3 (css.flatten ++ [.slice (some ⟨w4.heap.size, 0, none⟩) 1 1, .slice none 0 0]) ∧ w.heap[w4.heap.size]? = some (.cells #[.int .i64 11, .int .i64 0] 47 (0, 0)) := ⟨_, rfl⟩
  have GG := Lib.hid (show G (w6.setCell ⟨tB, 1, none⟩ (.slice a6 3 c6)) by subst hG; exact ⟨hE7, hown7, hba7⟩)
  have GE := Lib.hid (show ∀ w w', G w → Ext w w' → G w' by subst hG; exact fun w w' h hE => ⟨h.1.trans hE, own_ext h.2.1 hE, blk_ext h.2.2 hE⟩)
  have GS := Lib.hid (show ∀ w u, G w → G (w.setCell ⟨tB, 3, none⟩ u) by subst hG; exact fun w u h => ⟨ext_st h.1 (p := ⟨tB, 3, none⟩) (by show w3.heap.size ≤ tB; rw [HZ3.out]; exact Nat.le_refl _) u, own_setCell h.2.1 (p := ⟨tB, 3, none⟩) u (fun e => by have h : w4.heap.size + 1 + 1 ≤ tB := (h.2.1.lt _ e).1; omega), blk_far h.2.2 (p := ⟨tB, 3, none⟩) (by show tB ≠ w4.heap.size; omega) u⟩)
  have GM := Lib.hid (show ∀ w, G w → IsMd w (.slice av 1 cv) (.slice a6 3 c6) (choiceM M) ∧ IsTms w (.slice (some ⟨pB, 0, none⟩) 1 1) [ringT (V : Int)] ∧ Ext W w ∧ Tab w by subst hG; exact fun w h => ⟨⟨HMD.out.vars.ext h.1, rules_moreR (l := (ringM M).rules) HCL.out rfl HC2.out rfl h.2.1.reads (fun i c x h1 h2 => (HCE.out i c x h1 h2).ext h.1) ⟨_, _, rfl, isT_blk h.2.2, EachL.nil _ _ _⟩⟩, HPR.out.ext h.1, HE3.out.trans h.1, HT.out.ext (HE3.out.trans h.1)⟩)
  have HBT := Lib.hid hbt7
  clear t1 hE6 hba6 hown6 hg6 htl hbt6 hbt7 hba7 hown7 hE7 hG HXB HBA HBB HR3 HFL HCL HC2 HCE HMD HPR HX4 HZ3 TB HT HE3
  go_upto_region 5 with fail
  clear u1 f1
  have TB := HBT
  clear HBT
  generalize w6.setCell ⟨tB, 1, none⟩ (.slice a6 3 c6) = wn at *
  have hE := ext_al (Ext.refl wn) (Obj.cells #[.int .i64 13, .int .i64 0] 47)
  have PP := isT_lit wn 47 13 0 _ rfl
  replace TB := Lib.hid (blk_ext TB.out hE)
  replace GG := Lib.hid (GE.out _ _ GG.out hE)
  clear hE
  go_upto_region 6 with fail
  obtain ⟨ppB, hpp⟩ : ∃ x, wn.heap.size = x := ⟨_, rfl⟩
  rw [hpp] at PP ⊢
  clear hpp
  generalize wn.alloc (Obj.cells #[.int .i64 13, .int .i64 0] 47) = wm at *
  obtain ⟨wn, rfl⟩ : ∃ x, x = wm := ⟨_, rfl⟩
  go_wp2_with fail
  refine (kT1 17 _ _ wn _ PP (by simp [Tm.size])).mono ?_
  rintro e wz ⟨vJ1, rfl, J1, hE⟩
  obtain ⟨aJ1, nJ1, cJ1, rfl⟩ := J1.val
  replace TB := Lib.hid (blk_ext TB.out hE)
  replace GG := Lib.hid (GE.out _ _ GG.out hE)
  replace PP := PP.ext hE
  clear hE
  obtain ⟨wn, rfl⟩ : ∃ x, x = wz := ⟨_, rfl⟩
  obtain ⟨t0, t1, t2, t3⟩ := tb_four TB.out
  have f3 := blk_free TB.out 3
  go_upto_region 7 with fail
  clear t0 t1 t2 t3 f3
  replace GG := Lib.hid (GS.out _ (.slice aJ1 nJ1 cJ1) GG.out)
  replace PP := tb_isT (u := (.slice aJ1 nJ1 cJ1)) PP TB.out
  replace J1 := tb_isT (u := (.slice aJ1 nJ1 cJ1)) J1 TB.out
  replace TB := Lib.hid (tb_set (u := (.slice aJ1 nJ1 cJ1)) TB.out)
  generalize wn.setCell ⟨tB, 3, none⟩ (.slice aJ1 nJ1 cJ1) = wm at *
  obtain ⟨wn, rfl⟩ : ∃ x, x = wm := ⟨_, rfl⟩
  obtain ⟨t0, t1, t2, t3⟩ := tb_four TB.out
  go_wp2_with fail
  refine (HC.out _ _ _ F1.out (by omega) (by omega) _ _ _ _ _ ⟨(GM.out _ GG.out).1, (GM.out _ GG.out).2.1, J1⟩ (GM.out _ GG.out).2.2.2).mono ?_
  unfold VerR
  rintro e wz ⟨b, x1, y1, z1, x2, y2, z2, rfl, hb, hE⟩
  obtain rfl := B1.out b hb
  clear t0 t1 t2 t3 hb J1
  replace TB := Lib.hid (blk_ext TB.out hE)
  replace GG := Lib.hid (GE.out _ _ GG.out hE)
  replace PP := PP.ext hE
  clear hE
  obtain ⟨wn, rfl⟩ : ∃ x, x = wz := ⟨_, rfl⟩
  have hE := ext_al (Ext.refl wn) (Obj.cells #[.bool false, .slice x1 y1 z1, .slice x2 y2 z2] 57)
  have U1 := Lib.hid (blk_new wn (Obj.cells #[.bool false, .slice x1 y1 z1, .slice x2 y2 z2] 57))
  replace TB := Lib.hid (blk_ext TB.out hE)
  replace GG := Lib.hid (GE.out _ _ GG.out hE)
  replace PP := PP.ext hE
  clear hE
  go_upto_region 8 with fail
  obtain ⟨bU1, hU1⟩ : ∃ x, wn.heap.size = x := ⟨_, rfl⟩
  rw [hU1] at U1 ⊢
  clear hU1
  generalize wn.alloc (Obj.cells #[.bool false, .slice x1 y1 z1, .slice x2 y2 z2] 57) = wm at *
  obtain ⟨wn, rfl⟩ : ∃ x, x = wm := ⟨_, rfl⟩
  go_wp2_with fail
  refine (kT1 10 _ _ wn _ PP (by simp [Tm.size])).mono ?_
  rintro e wz ⟨vJ2, rfl, J2, hE⟩
  obtain ⟨aJ2, nJ2, cJ2, rfl⟩ := J2.val
  replace TB := Lib.hid (blk_ext TB.out hE)
  replace GG := Lib.hid (GE.out _ _ GG.out hE)
  replace PP := PP.ext hE
  replace U1 := Lib.hid (blk_ext U1.out hE)
  clear hE
  obtain ⟨wn, rfl⟩ : ∃ x, x = wz := ⟨_, rfl⟩
  go_wp2_with fail
  refine (kT1 18 _ _ wn _ J2 (by simp [Tm.size])).mono ?_
  rintro e wz ⟨vJ3, rfl, J3, hE⟩
  obtain ⟨aJ3, nJ3, cJ3, rfl⟩ := J3.val
  replace TB := Lib.hid (blk_ext TB.out hE)
  replace GG := Lib.hid (GE.out _ _ GG.out hE)
  replace PP := PP.ext hE
  replace U1 := Lib.hid (blk_ext U1.out hE)
  replace J2 := J2.ext hE
  clear hE
  obtain ⟨wn, rfl⟩ : ∃ x, x = wz := ⟨_, rfl⟩
  clear J2
  obtain ⟨t0, t1, t2, t3⟩ := tb_four TB.out
  have f3 := blk_free TB.out 3
  go_upto_region 9 with fail
  clear t0 t1 t2 t3 f3
  replace GG := Lib.hid (GS.out _ (.slice aJ3 nJ3 cJ3) GG.out)
  replace PP := tb_isT (u := (.slice aJ3 nJ3 cJ3)) PP TB.out
  replace U1 := Lib.hid (vb_set (u := (.slice aJ3 nJ3 cJ3)) U1.out TB.out)
  replace J3 := tb_isT (u := (.slice aJ3 nJ3 cJ3)) J3 TB.out
  replace TB := Lib.hid (tb_set (u := (.slice aJ3 nJ3 cJ3)) TB.out)
  generalize wn.setCell ⟨tB, 3, none⟩ (.slice aJ3 nJ3 cJ3) = wm at *
  obtain ⟨wn, rfl⟩ : ∃ x, x = wm := ⟨_, rfl⟩
  obtain ⟨t0, t1, t2, t3⟩ := tb_four TB.out
  go_wp2_with fail
  refine (HC.out _ _ _ F2.out (by omega) (by omega) _ _ _ _ _ ⟨(GM.out _ GG.out).1, (GM.out _ GG.out).2.1, J3⟩ (GM.out _ GG.out).2.2.2).mono ?_
  unfold VerR
  rintro e wz ⟨b, x1, y1, z1, x2, y2, z2, rfl, hb, hE⟩
  obtain rfl := B2.out b hb
  clear t0 t1 t2 t3 hb J3
  replace TB := Lib.hid (blk_ext TB.out hE)
  replace GG := Lib.hid (GE.out _ _ GG.out hE)
  replace PP := PP.ext hE
  replace U1 := Lib.hid (blk_ext U1.out hE)
  clear hE
  obtain ⟨wn, rfl⟩ : ∃ x, x = wz := ⟨_, rfl⟩
  have hE := ext_al (Ext.refl wn) (Obj.cells #[.bool false, .slice x1 y1 z1, .slice x2 y2 z2] 57)
  have U2 := Lib.hid (blk_new wn (Obj.cells #[.bool false, .slice x1 y1 z1, .slice x2 y2 z2] 57))
  replace TB := Lib.hid (blk_ext TB.out hE)
  replace GG := Lib.hid (GE.out _ _ GG.out hE)
  replace PP := PP.ext hE
  replace U1 := Lib.hid (blk_ext U1.out hE)
  clear hE
  go_upto_region 10 with fail
  obtain ⟨bU2, hU2⟩ : ∃ x, wn.heap.size = x := ⟨_, rfl⟩
  rw [hU2] at U2 ⊢
  clear hU2
  generalize wn.alloc (Obj.cells #[.bool false, .slice x1 y1 z1, .slice x2 y2 z2] 57) = wm at *
  obtain ⟨wn, rfl⟩ : ∃ x, x = wm := ⟨_, rfl⟩
  go_wp2_with fail
  refine (kT1 17 _ _ wn _ PP (by simp [Tm.size])).mono ?_
  rintro e wz ⟨vJ4, rfl, J4, hE⟩
  obtain ⟨aJ4, nJ4, cJ4, rfl⟩ := J4.val
  replace TB := Lib.hid (blk_ext TB.out hE)
  replace GG := Lib.hid (GE.out _ _ GG.out hE)
  replace PP := PP.ext hE
  replace U1 := Lib.hid (blk_ext U1.out hE)
  replace U2 := Lib.hid (blk_ext U2.out hE)
  clear hE
  obtain ⟨wn, rfl⟩ : ∃ x, x = wz := ⟨_, rfl⟩
  go_wp2_with fail
  refine (kT1 10 _ _ wn _ PP (by simp [Tm.size])).mono ?_
  rintro e wz ⟨vJ5, rfl, J5, hE⟩
  obtain ⟨aJ5, nJ5, cJ5, rfl⟩ := J5.val
  replace TB := Lib.hid (blk_ext TB.out hE)
  replace GG := Lib.hid (GE.out _ _ GG.out hE)
  replace PP := PP.ext hE
  replace U1 := Lib.hid (blk_ext U1.out hE)
  replace U2 := Lib.hid (blk_ext U2.out hE)
  replace J4 := J4.ext hE
  clear hE
  obtain ⟨wn, rfl⟩ : ∃ x, x = wz := ⟨_, rfl⟩
  go_wp2_with fail
  refine (kT1 18 _ _ wn _ J5 (by simp [Tm.size])).mono ?_
  rintro e wz ⟨vJ6, rfl, J6, hE⟩
  obtain ⟨aJ6, nJ6, cJ6, rfl⟩ := J6.val
  replace TB := Lib.hid (blk_ext TB.out hE)
  replace GG := Lib.hid (GE.out _ _ GG.out hE)
  replace PP := PP.ext hE
  replace U1 := Lib.hid (blk_ext U1.out hE)
  replace U2 := Lib.hid (blk_ext U2.out hE)
  replace J4 := J4.ext hE
  replace J5 := J5.ext hE
  clear hE
  obtain ⟨wn, rfl⟩ : ∃ x, x = wz := ⟨_, rfl⟩
  clear J5
  go_wp2_with fail
  refine (kT1 17 _ _ wn _ J6 (by simp [Tm.size])).mono ?_
  rintro e wz ⟨vJ7, rfl, J7, hE⟩
  obtain ⟨aJ7, nJ7, cJ7, rfl⟩ := J7.val
  replace TB := Lib.hid (blk_ext TB.out hE)
  replace GG := Lib.hid (GE.out _ _ GG.out hE)
  replace PP := PP.ext hE
  replace U1 := Lib.hid (blk_ext U1.out hE)
  replace U2 := Lib.hid (blk_ext U2.out hE)
  replace J4 := J4.ext hE
  replace J6 := J6.ext hE
  clear hE
  obtain ⟨wn, rfl⟩ : ∃ x, x = wz := ⟨_, rfl⟩
  clear J6
  go_wp2_with fail
  refine (kT2 9 _ _ _ _ wn _ J4 J7 (by simp [Tm.size])).mono ?_
  rintro e wz ⟨vJ8, rfl, J8, hE⟩
  obtain ⟨aJ8, nJ8, cJ8, rfl⟩ := J8.val
  replace TB := Lib.hid (blk_ext TB.out hE)
  replace GG := Lib.hid (GE.out _ _ GG.out hE)
  replace PP := PP.ext hE
  replace U1 := Lib.hid (blk_ext U1.out hE)
  replace U2 := Lib.hid (blk_ext U2.out hE)
  replace J4 := J4.ext hE
  replace J7 := J7.ext hE
  clear hE
  obtain ⟨wn, rfl⟩ : ∃ x, x = wz := ⟨_, rfl⟩
  clear J4
  clear J7
  obtain ⟨t0, t1, t2, t3⟩ := tb_four TB.out
  have f3 := blk_free TB.out 3
  go_upto_region 11 with fail
  clear t0 t1 t2 t3 f3
  replace GG := Lib.hid (GS.out _ (.slice aJ8 nJ8 cJ8) GG.out)
  replace PP := tb_isT (u := (.slice aJ8 nJ8 cJ8)) PP TB.out
  replace U1 := Lib.hid (vb_set (u := (.slice aJ8 nJ8 cJ8)) U1.out TB.out)
  replace U2 := Lib.hid (vb_set (u := (.slice aJ8 nJ8 cJ8)) U2.out TB.out)
  replace J8 := tb_isT (u := (.slice aJ8 nJ8 cJ8)) J8 TB.out
  replace TB := Lib.hid (tb_set (u := (.slice aJ8 nJ8 cJ8)) TB.out)
  generalize wn.setCell ⟨tB, 3, none⟩ (.slice aJ8 nJ8 cJ8) = wm at *
  obtain ⟨wn, rfl⟩ : ∃ x, x = wm := ⟨_, rfl⟩
  obtain ⟨t0, t1, t2, t3⟩ := tb_four TB.out
  go_wp2_with fail
  refine (HC.out _ _ _ F3.out (by omega) (by omega) _ _ _ _ _ ⟨(GM.out _ GG.out).1, (GM.out _ GG.out).2.1, J8⟩ (GM.out _ GG.out).2.2.2).mono ?_
  unfold VerR
  rintro e wz ⟨b, x1, y1, z1, x2, y2, z2, rfl, hb, hE⟩
  obtain rfl := B3.out b hb
  clear t0 t1 t2 t3 hb J8
  replace TB := Lib.hid (blk_ext TB.out hE)
  replace GG := Lib.hid (GE.out _ _ GG.out hE)
  replace PP := PP.ext hE
  replace U1 := Lib.hid (blk_ext U1.out hE)
  replace U2 := Lib.hid (blk_ext U2.out hE)
  clear hE
  obtain ⟨wn, rfl⟩ : ∃ x, x = wz := ⟨_, rfl⟩
  have hE := ext_al (Ext.refl wn) (Obj.cells #[.bool true, .slice x1 y1 z1, .slice x2 y2 z2] 57)
  have U3 := Lib.hid (blk_new wn (Obj.cells #[.bool true, .slice x1 y1 z1, .slice x2 y2 z2] 57))
  replace TB := Lib.hid (blk_ext TB.out hE)
  replace GG := Lib.hid (GE.out _ _ GG.out hE)
  replace PP := PP.ext hE
  replace U1 := Lib.hid (blk_ext U1.out hE)
  replace U2 := Lib.hid (blk_ext U2.out hE)
  clear hE
  go_upto_region 12 with fail
  obtain ⟨bU3, hU3⟩ : ∃ x, wn.heap.size = x := ⟨_, rfl⟩
  rw [hU3] at U3 ⊢
  clear hU3
  generalize wn.alloc (Obj.cells #[.bool true, .slice x1 y1 z1, .slice x2 y2 z2] 57) = wm at *
  obtain ⟨wn, rfl⟩ : ∃ x, x = wm := ⟨_, rfl⟩
  have y1 := blk_cell U1.out (i := 0) rfl
  have y2 := blk_cell U2.out (i := 0) rfl
  have y3 := blk_cell U3.out (i := 0) rfl
  go_wp2
  go_ret
  exact ⟨rfl, (GM.out _ GG.out).2.2.1⟩

end Go.Proofs.YtbmimdnpchldlaaDoor
