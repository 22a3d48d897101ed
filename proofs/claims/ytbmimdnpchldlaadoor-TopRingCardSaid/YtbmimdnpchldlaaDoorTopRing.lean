/- The law TopRing. -/
import Derived.Test.YtbmimdnpchldlaaDoorTopRB
namespace Go.Proofs.YtbmimdnpchldlaaDoor
open Go.RowKit

set_option maxRecDepth 100000 in
set_option maxHeartbeats 16000000 in
theorem topRing_law (v0 v1 : Value) (W : World) (ht : Tab W) (h0 : Cells Tryd.prog W 3 [v0]) (h1 : Cells Tryd.prog W 3 [v1]) :
    Calls Tryd.prog 4 #[v0, v1] W fun e w' => e = .returned (.bool true) ∧ Ext W w' := by
  obtain ⟨n1, e1, i1⟩ := h0.i64 Tryd.underlying3
  cases e1
  obtain ⟨n2, e2, i2⟩ := h1.i64 Tryd.underlying3
  cases e2
  have hk1 := pk_bd n1 8 (by omega)
  have K1 := Lib.hid fun wx => kpicked_any n1 8 wx i1.1 i1.2 (by omega) (by omega)
  obtain ⟨p, hp⟩ : ∃ p, pk n1 8 = p := ⟨_, rfl⟩
  rw [hp] at K1 hk1
  obtain ⟨M, hM⟩ : ∃ M : Nat, 2 + p = (M : Int) := ⟨(2 + p).toNat, by omega⟩
  have h2 : 2 ≤ M := by omega
  have h9 : M ≤ 9 := by omega
  have hk2 := pk_bd n2 (M : Int) (by omega)
  have K2 := Lib.hid fun wx => kpicked_any n2 (M : Int) wx i2.1 i2.2 (by omega) (by omega)
  obtain ⟨V, hV⟩ : ∃ V : Nat, pk n2 (M : Int) = (V : Int) := ⟨(pk n2 (M : Int)).toNat, by omega⟩
  rw [hV] at K2 hk2
  have hvM : V < M := by omega
  have HM := Lib.hid hM
  have HV := Lib.hid hV
  have HR := Lib.hid fun wx => ring_any M wx h2 h9
  have fp := fq_prop
  have f1 : Fq (.n1 18 0 (.n1 17 0 (.n0 13 0))) 3 2 := (fp.one 17 2 1 (.inr ⟨by omega, by omega⟩) (by omega)).one 18 3 2 (.inr ⟨by omega, by omega⟩) (by omega)
  have f2 : Fq (.n1 17 0 (.n1 18 0 (.n0 13 0))) 3 2 := (fp.one 18 2 1 (.inr ⟨by omega, by omega⟩) (by omega)).one 17 3 2 (.inr ⟨by omega, by omega⟩) (by omega)
  obtain ⟨K, hK⟩ : ∃ K : Nat, min V 6 = K := ⟨_, rfl⟩
  have hK6 : K ≤ 6 := by omega
  have f3 := fq_nexts K
  have f3 : Fq (nextT K (.n0 13 0)) 7 6 := ⟨f3.ok, f3.fit, Nat.le_trans f3.size (by omega), Nat.le_trans f3.cnt hK6⟩
  have hpk := ring_prop h2 h9 (v := (V : Int)) (by omega) (by omega)
  have HC := Lib.hid fun (t : Tm) (a c : Nat) (ft : Fq t a c) (ha : a ≤ 60) (hc : c ≤ 6) vv rv qv fv wx (hT : IsTask wx vv rv qv fv (ringM M) [ringT (V : Int)] t) (hb : Tab wx) =>
    verdict_any vv rv qv fv (ringM M) [ringT (V : Int)] t wx hT hb ⟨ring_ok h2 h9, (show 0 < 1 by omega), hpk, ft.isF ha hc⟩ M (ring_count h2 h9) (pow_room h9 (Nat.le_trans ft.cnt hc))
  have B1 := Lib.hid fun (b : Bool) (h : b = true ↔ HoldsR (ringM M) [ringT (V : Int)] (.n1 18 0 (.n1 17 0 (.n0 13 0)))) => (vb_eq h (ring_again h2 h9 hvM)).symm
  have B2 := Lib.hid fun (b : Bool) (h : b = true ↔ HoldsR (ringM M) [ringT (V : Int)] (.n1 17 0 (.n1 18 0 (.n0 13 0)))) => (vb_eq h (ring_settles h2 h9 hvM)).symm
  obtain ⟨dv, hdv⟩ : ∃ x, decide (V ≤ 6) = x := ⟨_, rfl⟩
  have B3 := Lib.hid fun (b : Bool) (h : b = true ↔ HoldsR (ringM M) [ringT (V : Int)] (nextT K (.n0 13 0))) => (vb_eq h (show holdsB (ringM M) [ringT (V : Int)] (nextT K (.n0 13 0)) = dv from by rw [← hK]; exact (ring_nexts h2 h9 hvM).trans hdv)).symm
  have HDV := Lib.hid hdv
  have HK := Lib.hid hK
  have F1 := Lib.hid f1
  have F2 := Lib.hid f2
  have F3 := Lib.hid f3
  have HT := Lib.hid ht
  obtain ⟨hp0, hp8⟩ := hk1
  obtain ⟨hq0, hq1⟩ := hk2
  clear h0 h1 i1 i2 hp hM hV hpk f1 f2 f3 fp ht hdv hK
  go_enter Tryd.func4, Tryd.ntmps4
  go_wp2_with fail
  refine (K1.out _).mono ?_
  rintro e wz ⟨rfl, rfl⟩
  go_upto_region 2 with fail
  rw [HM.out]
  go_wp2_with fail
  refine (K2.out _).mono ?_
  rintro e wz ⟨rfl, rfl⟩
  go_upto_region 3 with fail
  go_wp2_with fail
  refine (HR.out _).mono ?_
  rintro e w1 ⟨av, cv, ar, rfl, hm1, hE1⟩
  go_wp2_with fail
  refine (kRing (V : Int) w1 _ _ _).mono ?_
  rintro e w2 ⟨vp, rfl, hP2, hE2⟩
  obtain ⟨ap, np, cp, rfl⟩ := hP2.val
  have hx3 := ext_al (Ext.refl w2) (Obj.cells #[.slice ap np cp] 32)
  have HPR := Lib.hid (isTms_one 32 hP2)
  have HMD := Lib.hid (hm1.ext (hE2.trans hx3))
  have HE3 := Lib.hid (hE1.trans (hE2.trans hx3))
  clear hm1 hE1 hE2 hP2 hx3
  go_upto_region 4 with fail
  obtain ⟨pB, hpB⟩ : ∃ x, w2.heap.size = x := ⟨_, rfl⟩
  have hz3 : (w2.alloc (Obj.cells #[.slice ap np cp] 32)).heap.size = pB + 1 := by rw [World.size_alloc, hpB]
  rw [hpB] at HPR ⊢
  clear hpB
  generalize w2.alloc (Obj.cells #[.slice ap np cp] 32) = w3 at *
  obtain ⟨tB, htB⟩ : ∃ x, pB + 1 = x := ⟨_, rfl⟩
  rw [htB] at hz3 ⊢
  clear htB
  have hx4 := ext_al (Ext.refl w3) (Obj.cells #[.slice av 1 cv, .slice ar 2 2, .slice (some ⟨pB, 0, none⟩) 1 1, .slice none 0 0] 34)
  have TB := Lib.hid (blk_new w3 (Obj.cells #[.slice av 1 cv, .slice ar 2 2, .slice (some ⟨pB, 0, none⟩) 1 1, .slice none 0 0] 34))
  rw [hz3] at TB
  have HX4 := Lib.hid hx4
  have HZ3 := Lib.hid hz3
  clear hx4 hz3
  generalize w3.alloc (Obj.cells #[.slice av 1 cv, .slice ar 2 2, .slice (some ⟨pB, 0, none⟩) 1 1, .slice none 0 0] 34) = w4 at *
  obtain ⟨G, hG⟩ : ∃ G : World → Prop, G = fun w => Ext w3 w := ⟨_, rfl⟩
  have GG := Lib.hid (show G w4 by subst hG; exact HX4.out)
  have GE := Lib.hid (show ∀ w w', G w → Ext w w' → G w' by subst hG; exact fun w w' h hE => h.trans hE)
  have GS := Lib.hid (show ∀ w u, G w → G (w.setCell ⟨tB, 3, none⟩ u) by subst hG; exact fun w u h => ext_st h (p := ⟨tB, 3, none⟩) (by show w3.heap.size ≤ tB; rw [HZ3.out]; exact Nat.le_refl _) u)
  have GM := Lib.hid (show ∀ w, G w → IsMd w (.slice av 1 cv) (.slice ar 2 2) (ringM M) ∧ IsTms w (.slice (some ⟨pB, 0, none⟩) 1 1) [ringT (V : Int)] ∧ Ext W w ∧ Tab w by subst hG; exact fun w h => ⟨HMD.out.ext h, HPR.out.ext h, HE3.out.trans h, HT.out.ext (HE3.out.trans h)⟩)
  clear hG HMD HPR HX4 HZ3 HT HE3
  obtain ⟨wn, rfl⟩ : ∃ x, x = w4 := ⟨_, rfl⟩
  have hE := ext_al (Ext.refl wn) (Obj.cells #[.int .i64 13, .int .i64 0] 47)
  have PP := isT_lit wn 47 13 0 _ rfl
  replace TB := Lib.hid (blk_ext TB.out hE)
  replace GG := Lib.hid (GE.out _ _ GG.out hE)
  clear hE
  go_upto_region 5 with fail
  obtain ⟨ppB, hpp⟩ : ∃ x, wn.heap.size = x := ⟨_, rfl⟩
  rw [hpp] at PP ⊢
  clear hpp
  generalize wn.alloc (Obj.cells #[.int .i64 13, .int .i64 0] 47) = wm at *
  obtain ⟨wn, rfl⟩ : ∃ x, x = wm := ⟨_, rfl⟩
  go_wp2_with fail
  refine (kT1 17 _ _ wn _ PP (by simp [Tm.size])).mono ?_
  rintro e wz ⟨vJ1, rfl, J1, hE⟩
  obtain ⟨aJ1, nJ1, cJ1, rfl⟩ := J1.val
  replace TB := Lib.hid (blk_ext TB.out hE)
  replace GG := Lib.hid (GE.out _ _ GG.out hE)
  replace PP := PP.ext hE
  clear hE
  obtain ⟨wn, rfl⟩ : ∃ x, x = wz := ⟨_, rfl⟩
  go_wp2_with fail
  refine (kT1 18 _ _ wn _ J1 (by simp [Tm.size])).mono ?_
  rintro e wz ⟨vJ2, rfl, J2, hE⟩
  obtain ⟨aJ2, nJ2, cJ2, rfl⟩ := J2.val
  replace TB := Lib.hid (blk_ext TB.out hE)
  replace GG := Lib.hid (GE.out _ _ GG.out hE)
  replace PP := PP.ext hE
  replace J1 := J1.ext hE
  clear hE
  obtain ⟨wn, rfl⟩ : ∃ x, x = wz := ⟨_, rfl⟩
  clear J1
  obtain ⟨t0, t1, t2, t3⟩ := tb_four TB.out
  have f3 := blk_free TB.out 3
  go_upto_region 6 with fail
  clear t0 t1 t2 t3 f3
  replace GG := Lib.hid (GS.out _ (.slice aJ2 nJ2 cJ2) GG.out)
  replace PP := tb_isT (u := (.slice aJ2 nJ2 cJ2)) PP TB.out
  replace J2 := tb_isT (u := (.slice aJ2 nJ2 cJ2)) J2 TB.out
  replace TB := Lib.hid (tb_set (u := (.slice aJ2 nJ2 cJ2)) TB.out)
  generalize wn.setCell ⟨tB, 3, none⟩ (.slice aJ2 nJ2 cJ2) = wm at *
  obtain ⟨wn, rfl⟩ : ∃ x, x = wm := ⟨_, rfl⟩
  obtain ⟨t0, t1, t2, t3⟩ := tb_four TB.out
  go_wp2_with fail
  refine (HC.out _ _ _ F1.out (by omega) (by omega) _ _ _ _ _ ⟨(GM.out _ GG.out).1, (GM.out _ GG.out).2.1, J2⟩ (GM.out _ GG.out).2.2.2).mono ?_
  unfold VerR
  rintro e wz ⟨b, x1, y1, z1, x2, y2, z2, rfl, hb, hE⟩
  obtain rfl := B1.out b hb
  clear t0 t1 t2 t3 hb J2
  replace TB := Lib.hid (blk_ext TB.out hE)
  replace GG := Lib.hid (GE.out _ _ GG.out hE)
  replace PP := PP.ext hE
  clear hE
  obtain ⟨wn, rfl⟩ : ∃ x, x = wz := ⟨_, rfl⟩
  have hE := ext_al (Ext.refl wn) (Obj.cells #[.bool true, .slice x1 y1 z1, .slice x2 y2 z2] 57)
  have U1 := Lib.hid (blk_new wn (Obj.cells #[.bool true, .slice x1 y1 z1, .slice x2 y2 z2] 57))
  replace TB := Lib.hid (blk_ext TB.out hE)
  replace GG := Lib.hid (GE.out _ _ GG.out hE)
  replace PP := PP.ext hE
  clear hE
  go_upto_region 7 with fail
  obtain ⟨bU1, hU1⟩ : ∃ x, wn.heap.size = x := ⟨_, rfl⟩
  rw [hU1] at U1 ⊢
  clear hU1
  generalize wn.alloc (Obj.cells #[.bool true, .slice x1 y1 z1, .slice x2 y2 z2] 57) = wm at *
  obtain ⟨wn, rfl⟩ : ∃ x, x = wm := ⟨_, rfl⟩
  go_wp2_with fail
  refine (kT1 18 _ _ wn _ PP (by simp [Tm.size])).mono ?_
  rintro e wz ⟨vJ3, rfl, J3, hE⟩
  obtain ⟨aJ3, nJ3, cJ3, rfl⟩ := J3.val
  replace TB := Lib.hid (blk_ext TB.out hE)
  replace GG := Lib.hid (GE.out _ _ GG.out hE)
  replace PP := PP.ext hE
  replace U1 := Lib.hid (blk_ext U1.out hE)
  clear hE
  obtain ⟨wn, rfl⟩ : ∃ x, x = wz := ⟨_, rfl⟩
  go_wp2_with fail
  refine (kT1 17 _ _ wn _ J3 (by simp [Tm.size])).mono ?_
  rintro e wz ⟨vJ4, rfl, J4, hE⟩
  obtain ⟨aJ4, nJ4, cJ4, rfl⟩ := J4.val
  replace TB := Lib.hid (blk_ext TB.out hE)
  replace GG := Lib.hid (GE.out _ _ GG.out hE)
  replace PP := PP.ext hE
  replace U1 := Lib.hid (blk_ext U1.out hE)
  replace J3 := J3.ext hE
  clear hE
  obtain ⟨wn, rfl⟩ : ∃ x, x = wz := ⟨_, rfl⟩
  clear J3
  obtain ⟨t0, t1, t2, t3⟩ := tb_four TB.out
  have f3 := blk_free TB.out 3
  go_upto_region 8 with fail
  clear t0 t1 t2 t3 f3
  replace GG := Lib.hid (GS.out _ (.slice aJ4 nJ4 cJ4) GG.out)
  replace PP := tb_isT (u := (.slice aJ4 nJ4 cJ4)) PP TB.out
  replace U1 := Lib.hid (vb_set (u := (.slice aJ4 nJ4 cJ4)) U1.out TB.out)
  replace J4 := tb_isT (u := (.slice aJ4 nJ4 cJ4)) J4 TB.out
  replace TB := Lib.hid (tb_set (u := (.slice aJ4 nJ4 cJ4)) TB.out)
  generalize wn.setCell ⟨tB, 3, none⟩ (.slice aJ4 nJ4 cJ4) = wm at *
  obtain ⟨wn, rfl⟩ : ∃ x, x = wm := ⟨_, rfl⟩
  obtain ⟨t0, t1, t2, t3⟩ := tb_four TB.out
  go_wp2_with fail
  refine (HC.out _ _ _ F2.out (by omega) (by omega) _ _ _ _ _ ⟨(GM.out _ GG.out).1, (GM.out _ GG.out).2.1, J4⟩ (GM.out _ GG.out).2.2.2).mono ?_
  unfold VerR
  rintro e wz ⟨b, x1, y1, z1, x2, y2, z2, rfl, hb, hE⟩
  obtain rfl := B2.out b hb
  clear t0 t1 t2 t3 hb J4
  replace TB := Lib.hid (blk_ext TB.out hE)
  replace GG := Lib.hid (GE.out _ _ GG.out hE)
  replace PP := PP.ext hE
  replace U1 := Lib.hid (blk_ext U1.out hE)
  clear hE
  obtain ⟨wn, rfl⟩ : ∃ x, x = wz := ⟨_, rfl⟩
  have hE := ext_al (Ext.refl wn) (Obj.cells #[.bool false, .slice x1 y1 z1, .slice x2 y2 z2] 57)
  have U2 := Lib.hid (blk_new wn (Obj.cells #[.bool false, .slice x1 y1 z1, .slice x2 y2 z2] 57))
  replace TB := Lib.hid (blk_ext TB.out hE)
  replace GG := Lib.hid (GE.out _ _ GG.out hE)
  replace PP := PP.ext hE
  replace U1 := Lib.hid (blk_ext U1.out hE)
  clear hE
  go_upto_region 9 with fail
  obtain ⟨bU2, hU2⟩ : ∃ x, wn.heap.size = x := ⟨_, rfl⟩
  rw [hU2] at U2 ⊢
  clear hU2
  generalize wn.alloc (Obj.cells #[.bool false, .slice x1 y1 z1, .slice x2 y2 z2] 57) = wm at *
  obtain ⟨wn, rfl⟩ : ∃ x, x = wm := ⟨_, rfl⟩
  go_wp2_with fail
  go_loopg [13, 14] K (fun g x z wr => ∃ (i : Nat) (a : Option Addr) (n c : Nat), g + i = K ∧ x = .slice a n c ∧ z = .int .i64 (i : Int) ∧ Ext wn wr ∧ IsT wr (.slice a n c) (nextT i (.n0 13 0)))
  case atStart => exact ⟨0, _, _, _, by omega, rfl, by go_num, Ext.refl _, PP⟩
  case round =>
    obtain ⟨i, a, n, c, hgi, rfl, rfl, hE, hT⟩ := hrel
    have HGI := Lib.hid hgi
    have HEw := Lib.hid hE
    have HTi := Lib.hid hT
    clear hgi hE hT
    by_cases hi : i < K
    · have hiV : (i : Int) < (V : Int) := by have := HK.out; omega
      have hi6 : (i : Int) < 6 := by have := HK.out; omega
      go_wp2_with fail
      refine (kT1 14 _ _ wr _ HTi.out (by have := (fq_nexts i).size; have := HK.out; omega)).mono ?_
      rintro e wz ⟨v5, rfl, T5, hE⟩
      obtain ⟨a5, n5, c5, rfl⟩ := T5.val
      go_wp2_with fail
      go_roundg (gk - 1)
      case measure => have := HGI.out; omega
      case rel => exact ⟨i + 1, _, _, _, by have := HGI.out; omega, rfl, by go_num, HEw.out.trans hE, T5⟩
    · obtain rfl : K = i := by have := HGI.out; omega
      have J5 := HTi.out
      have hE := HEw.out
      obtain ⟨wz, rfl⟩ : ∃ x, x = wr := ⟨_, rfl⟩
      obtain ⟨aJ5, rfl⟩ : ∃ x, x = a := ⟨_, rfl⟩
      obtain ⟨nJ5, rfl⟩ : ∃ x, x = n := ⟨_, rfl⟩
      obtain ⟨cJ5, rfl⟩ : ∃ x, x = c := ⟨_, rfl⟩
      have hmin : ¬ ((K : Int) < (V : Int) ∧ (K : Int) < 6) := by have := HK.out; omega
      by_cases hiV : (K : Int) < (V : Int)
      case' pos =>
        have hi6 : ¬ (K : Int) < 6 := fun h => hmin ⟨hiV, h⟩
        have HI6 := Lib.hid (show decide ((V : Int) ≤ 6) = false from decide_eq_false (by omega))
        have HD6 := Lib.hid (show decide (V ≤ 6) = false from decide_eq_false (by omega))
      case' neg =>
        have HI6 := Lib.hid (show decide ((V : Int) ≤ 6) = true from decide_eq_true (by have := HK.out; omega))
        have HD6 := Lib.hid (show decide (V ≤ 6) = true from decide_eq_true (by have := HK.out; omega))
      all_goals
        clear hmin HGI HTi HEw
        replace TB := Lib.hid (blk_ext TB.out hE)
        replace GG := Lib.hid (GE.out _ _ GG.out hE)
        replace PP := PP.ext hE
        replace U1 := Lib.hid (blk_ext U1.out hE)
        replace U2 := Lib.hid (blk_ext U2.out hE)
        clear hE
        obtain ⟨wn, rfl⟩ : ∃ x, x = wz := ⟨_, rfl⟩
        go_upto_region 14 with fail
        obtain ⟨t0, t1, t2, t3⟩ := tb_four TB.out
        have f3 := blk_free TB.out 3
        go_upto_region 15 with fail
        clear t0 t1 t2 t3 f3
        replace GG := Lib.hid (GS.out _ (.slice aJ5 nJ5 cJ5) GG.out)
        replace PP := tb_isT (u := (.slice aJ5 nJ5 cJ5)) PP TB.out
        replace U1 := Lib.hid (vb_set (u := (.slice aJ5 nJ5 cJ5)) U1.out TB.out)
        replace U2 := Lib.hid (vb_set (u := (.slice aJ5 nJ5 cJ5)) U2.out TB.out)
        replace J5 := tb_isT (u := (.slice aJ5 nJ5 cJ5)) J5 TB.out
        replace TB := Lib.hid (tb_set (u := (.slice aJ5 nJ5 cJ5)) TB.out)
        generalize wn.setCell ⟨tB, 3, none⟩ (.slice aJ5 nJ5 cJ5) = wm at *
        obtain ⟨wn, rfl⟩ : ∃ x, x = wm := ⟨_, rfl⟩
        obtain ⟨t0, t1, t2, t3⟩ := tb_four TB.out
        go_wp2_with fail
        refine (HC.out _ _ _ F3.out (by omega) (by omega) _ _ _ _ _ ⟨(GM.out _ GG.out).1, (GM.out _ GG.out).2.1, J5⟩ (GM.out _ GG.out).2.2.2).mono ?_
        unfold VerR
        rintro e wz ⟨b, x1, y1, z1, x2, y2, z2, rfl, hb, hE⟩
        obtain rfl := B3.out b hb
        clear t0 t1 t2 t3 hb J5
        replace TB := Lib.hid (blk_ext TB.out hE)
        replace GG := Lib.hid (GE.out _ _ GG.out hE)
        replace PP := PP.ext hE
        replace U1 := Lib.hid (blk_ext U1.out hE)
        replace U2 := Lib.hid (blk_ext U2.out hE)
        clear hE
        obtain ⟨wn, rfl⟩ : ∃ x, x = wz := ⟨_, rfl⟩
        have hE := ext_al (Ext.refl wn) (Obj.cells #[.bool dv, .slice x1 y1 z1, .slice x2 y2 z2] 57)
        have U3 := Lib.hid (blk_new wn (Obj.cells #[.bool dv, .slice x1 y1 z1, .slice x2 y2 z2] 57))
        replace TB := Lib.hid (blk_ext TB.out hE)
        replace GG := Lib.hid (GE.out _ _ GG.out hE)
        replace PP := PP.ext hE
        replace U1 := Lib.hid (blk_ext U1.out hE)
        replace U2 := Lib.hid (blk_ext U2.out hE)
        clear hE
        go_upto_region 16 with fail
        obtain ⟨bU3, hU3⟩ : ∃ x, wn.heap.size = x := ⟨_, rfl⟩
        rw [hU3] at U3 ⊢
        clear hU3
        generalize wn.alloc (Obj.cells #[.bool dv, .slice x1 y1 z1, .slice x2 y2 z2] 57) = wm at *
        obtain ⟨wn, rfl⟩ : ∃ x, x = wm := ⟨_, rfl⟩
        have y1 := blk_cell U1.out (i := 0) rfl
        have y2 := blk_cell U2.out (i := 0) rfl
        have y3 := blk_cell U3.out (i := 0) rfl
        have h6 := HI6.out
        obtain rfl := HD6.out.symm.trans HDV.out
        go_wp2
        go_ret
        exact ⟨rfl, (GM.out _ GG.out).2.2.1⟩

end Go.Proofs.YtbmimdnpchldlaaDoor
