/- The law WordNest. -/
import Derived.Test.YtffjhhpikgodiaaDoorSmall
namespace Go.Proofs.YtffjhhpikgodiaaDoor
open Go.RowKit

theorem pair_drew {w : World} {p q : Addr} {u v : Value} (h : w.cell? p = some u ∧ w.cell? q = some v) : w.drew.cell? p = some u ∧ w.drew.cell? q = some v :=
  ⟨cell_later (Below.drew (Ext.refl w)) h.1, cell_later (Below.drew (Ext.refl w)) h.2⟩

set_option maxRecDepth 100000 in
set_option maxHeartbeats 8000000 in
theorem wordNest_law (v0 v1 : Value) (cs : Array Value) (W : World) (ht : Tab W) (h0 : Cells Tryd.prog W 22 [v0]) (h1 : Cells Tryd.prog W 22 [v1]) (hs : Cells Tryd.prog W 40 cs.toList) :
    Calls Tryd.prog 12 #[v0, v1, .agg cs] W fun e w' => e = .returned (.bool true) ∧ Ext W w' := by
  obtain ⟨raw0, o0, hraw0⟩ := raw_for h0
  obtain ⟨raw1, o1, hraw1⟩ := raw_for h1
  obtain ⟨aS, aL, cS, cL, S, L, rfl, hS, hL, iS, iL⟩ := spell_of hs
  have EE := ext_al (Ext.refl W) (Obj.cells #[.slice aS S.length cS, .slice aL L.length cL] 40)
  have TB := ht.ext EE
  have HWA := Lib.hid (word_any _ _ S L _ (hS.ext EE) (hL.ext EE) iS iL)
  have WOK := Lib.hid (word_ok S L)
  replace o0 := ops_ext o0 EE
  have M0 := Lib.hid (show ∀ w, Ops w v0 raw0 → Calls Tryd.prog 16 #[v0, .int .i64 3, .int .i64 1] w (fun e w' => ∃ v', e = .returned v' ∧ w'.ownsRow w.heap.size 51 2 v' (forO raw0 3 1).flat.length ((forO raw0 3 1).flat.flatMap opc) ∧ Ext w w') from fun w h => mkFormula v0 raw0 3 1 w h hraw0 (by omega) (by omega) (by omega))
  have F0 := Lib.hid (fm_for raw0 1)
  generalize forO raw0 3 1 = t0 at *
  have hs0 := F0.out.size
  replace o1 := ops_ext o1 EE
  have M1 := Lib.hid (show ∀ w, Ops w v1 raw1 → Calls Tryd.prog 16 #[v1, .int .i64 3, .int .i64 1] w (fun e w' => ∃ v', e = .returned v' ∧ w'.ownsRow w.heap.size 51 2 v' (forO raw1 3 1).flat.length ((forO raw1 3 1).flat.flatMap opc) ∧ Ext w w') from fun w h => mkFormula v1 raw1 3 1 w h hraw1 (by omega) (by omega) (by omega))
  have F1 := Lib.hid (fm_for raw1 1)
  generalize forO raw1 3 1 = t1 at *
  have hs1 := F1.out.size
  have hSl : S.length = S.length := rfl
  generalize letsL S = Sm at *
  generalize loopW L = Lp at *
  obtain ⟨b0, hb0⟩ : ∃ b, satB ⟨Sm ++ Lp, Sm.length⟩ (.n1 18 0 (.n1 18 0 t0)) 0 = b := ⟨_, rfl⟩
  have EX0 := Lib.hid hb0
  have EY0 := Lib.hid (show satB ⟨Sm ++ Lp, Sm.length⟩ (.n1 18 0 t0) 0 = b0 from (nest_glo _ _ _ _ _ _).symm.trans hb0)
  have GX0 := Lib.hid ((((F0.out).one 18 18 2 (.inr ⟨by omega, by omega⟩) (by omega))).one 18 19 3 (.inr ⟨by omega, by omega⟩) (by omega))
  have GY0 := Lib.hid ((F0.out).one 18 18 2 (.inr ⟨by omega, by omega⟩) (by omega))
  clear hb0
  obtain ⟨b1, hb1⟩ : ∃ b, satB ⟨Sm ++ Lp, Sm.length⟩ (.n1 17 0 (.n1 17 0 t0)) 0 = b := ⟨_, rfl⟩
  have EX1 := Lib.hid hb1
  have EY1 := Lib.hid (show satB ⟨Sm ++ Lp, Sm.length⟩ (.n1 17 0 t0) 0 = b1 from (nest_fin _ _ _ _ _ _).symm.trans hb1)
  have GX1 := Lib.hid ((((F0.out).one 17 18 2 (.inr ⟨by omega, by omega⟩) (by omega))).one 17 19 3 (.inr ⟨by omega, by omega⟩) (by omega))
  have GY1 := Lib.hid ((F0.out).one 17 18 2 (.inr ⟨by omega, by omega⟩) (by omega))
  clear hb1
  obtain ⟨b2, hb2⟩ : ∃ b, satB ⟨Sm ++ Lp, Sm.length⟩ (.n2 15 0 t0 (.n2 15 0 t0 t1)) 0 = b := ⟨_, rfl⟩
  have EX2 := Lib.hid hb2
  have EY2 := Lib.hid (show satB ⟨Sm ++ Lp, Sm.length⟩ (.n2 15 0 t0 t1) 0 = b2 from (nest_unt _ _ _ _ _ _ _).symm.trans hb2)
  have GX2 := Lib.hid ((F0.out).two (((F0.out).two (F1.out) 15 35 3 (.inr ⟨by omega, by omega⟩) (by omega))) 15 53 5 (.inr ⟨by omega, by omega⟩) (by omega))
  have GY2 := Lib.hid ((F0.out).two (F1.out) 15 35 3 (.inr ⟨by omega, by omega⟩) (by omega))
  clear hb2
  obtain ⟨b3, hb3⟩ : ∃ b, satB ⟨Sm ++ Lp, Sm.length⟩ (.n2 16 0 t0 (.n2 16 0 t0 t1)) 0 = b := ⟨_, rfl⟩
  have EX3 := Lib.hid hb3
  have EY3 := Lib.hid (show satB ⟨Sm ++ Lp, Sm.length⟩ (.n2 16 0 t0 t1) 0 = b3 from (nest_rel _ _ _ _ _ _ _).symm.trans hb3)
  have GX3 := Lib.hid ((F0.out).two (((F0.out).two (F1.out) 16 35 3 (.inr ⟨by omega, by omega⟩) (by omega))) 16 53 5 (.inr ⟨by omega, by omega⟩) (by omega))
  have GY3 := Lib.hid ((F0.out).two (F1.out) 16 35 3 (.inr ⟨by omega, by omega⟩) (by omega))
  clear hb3
  obtain ⟨b4, hb4⟩ : ∃ b, satB ⟨Sm ++ Lp, Sm.length⟩ (.n1 17 0 (.n1 18 0 (.n1 17 0 t0))) 0 = b := ⟨_, rfl⟩
  have EX4 := Lib.hid hb4
  have EY4 := Lib.hid (show satB ⟨Sm ++ Lp, Sm.length⟩ (.n1 18 0 (.n1 17 0 t0)) 0 = b4 from (nest_fgf _ _ _ _ _ _ _ _).symm.trans hb4)
  have GX4 := Lib.hid ((((((F0.out).one 17 18 2 (.inr ⟨by omega, by omega⟩) (by omega))).one 18 19 3 (.inr ⟨by omega, by omega⟩) (by omega))).one 17 20 4 (.inr ⟨by omega, by omega⟩) (by omega))
  have GY4 := Lib.hid ((((F0.out).one 17 18 2 (.inr ⟨by omega, by omega⟩) (by omega))).one 18 19 3 (.inr ⟨by omega, by omega⟩) (by omega))
  clear hb4
  obtain ⟨b5, hb5⟩ : ∃ b, satB ⟨Sm ++ Lp, Sm.length⟩ (.n1 18 0 (.n1 17 0 (.n1 18 0 t0))) 0 = b := ⟨_, rfl⟩
  have EX5 := Lib.hid hb5
  have EY5 := Lib.hid (show satB ⟨Sm ++ Lp, Sm.length⟩ (.n1 17 0 (.n1 18 0 t0)) 0 = b5 from (nest_gfg _ _ _ _ _ _ _ _).symm.trans hb5)
  have GX5 := Lib.hid ((((((F0.out).one 18 18 2 (.inr ⟨by omega, by omega⟩) (by omega))).one 17 19 3 (.inr ⟨by omega, by omega⟩) (by omega))).one 18 20 4 (.inr ⟨by omega, by omega⟩) (by omega))
  have GY5 := Lib.hid ((((F0.out).one 18 18 2 (.inr ⟨by omega, by omega⟩) (by omega))).one 17 19 3 (.inr ⟨by omega, by omega⟩) (by omega))
  clear hb5
  have EZ := Lib.hid (satB_yes ⟨Sm ++ Lp, Sm.length⟩ 0 0)
  clear ht hs hS hL iS iL hSl h0 hraw0 h1 hraw1
  go_enter Tryd.func12, Tryd.ntmps12
  go_wp2_with fail
  generalize W.alloc (Obj.cells #[.slice aS S.length cS, .slice aL L.length cL] 40) = w0 at *
  refine HWA.out.mono ?_
  rintro e wn ⟨sv, lv, rfl, WW, hE⟩
  clear HWA
  replace o0 := ops_ext o0 hE
  replace o1 := ops_ext o1 hE
  replace TB := TB.ext hE
  replace EE := EE.trans hE
  clear hE
  obtain ⟨xsS, xeS, axS, cxS, rfl, xrS⟩ := WW.st
  obtain ⟨xsL, xeL, axL, cxL, rfl, xrL⟩ := WW.lp
  clear xeS xrS xeL xrL
  go_wp2_with fail
  have hE := ext_al (Ext.refl wn) (Obj.cells #[.slice axS Sm.length cxS, .slice axL Lp.length cxL] 43)
  have hbk := blk_new wn (Obj.cells #[.slice axS Sm.length cxS, .slice axL Lp.length cxL] 43)
  have c0 := blk_cell hbk (i := 0) (v := .slice axS Sm.length cxS) rfl
  have c1 := blk_cell hbk (i := 1) (v := .slice axL Lp.length cxL) rfl
  clear hbk
  generalize hwB : wn.heap.size = wB at *
  clear hwB
  generalize hwn : wn.alloc (Obj.cells #[.slice axS Sm.length cxS, .slice axL Lp.length cxL] 43) = wn2 at *
  clear hwn
  have cur := And.intro c0 c1
  clear c0 c1
  replace o0 := ops_ext o0 hE
  replace o1 := ops_ext o1 hE
  replace WW := WW.ext hE
  replace TB := TB.ext hE
  replace EE := EE.trans hE
  clear hE
  refine (M0.out _ o0).mono ?_
  rintro e wn ⟨u0, rfl, hown, hE⟩
  have A0 := isT_own hown
  obtain ⟨a0, m0, c0, rfl⟩ := A0.val
  clear hown o0 M0
  replace o1 := ops_ext o1 hE
  replace WW := WW.ext hE
  replace TB := TB.ext hE
  replace cur := two_later hE cur
  replace EE := EE.trans hE
  clear hE
  go_wp2_with fail
  refine (M1.out _ o1).mono ?_
  rintro e wn ⟨u1, rfl, hown, hE⟩
  have A1 := isT_own hown
  obtain ⟨a1, m1, c1, rfl⟩ := A1.val
  clear hown o1 M1
  replace WW := WW.ext hE
  replace A0 := A0.ext hE
  replace TB := TB.ext hE
  replace cur := two_later hE cur
  replace EE := EE.trans hE
  clear hE
  go_wp2_with fail
  refine (joinT1 18 _ _ _ _ A0 (by first | omega | (simp only [Tm.size]; omega))).mono ?_
  rintro e wn ⟨vj, rfl, J0, hE⟩
  obtain ⟨ajJ0, mjJ0, cjJ0, rfl⟩ := J0.val
  replace WW := WW.ext hE
  replace A0 := A0.ext hE
  replace A1 := A1.ext hE
  replace TB := TB.ext hE
  replace cur := two_later hE cur
  replace EE := EE.trans hE
  clear hE
  go_wp2_with fail
  refine (joinT1 18 _ _ _ _ J0 (by first | omega | (simp only [Tm.size]; omega))).mono ?_
  rintro e wn ⟨vj, rfl, X0, hE⟩
  obtain ⟨ajX0, mjX0, cjX0, rfl⟩ := X0.val
  replace WW := WW.ext hE
  replace A0 := A0.ext hE
  replace A1 := A1.ext hE
  replace J0 := J0.ext hE
  replace TB := TB.ext hE
  replace cur := two_later hE cur
  replace EE := EE.trans hE
  clear hE
  clear J0
  go_wp2_with fail
  refine (joinT1 18 _ _ _ _ A0 (by first | omega | (simp only [Tm.size]; omega))).mono ?_
  rintro e wn ⟨vj, rfl, Y0, hE⟩
  obtain ⟨ajY0, mjY0, cjY0, rfl⟩ := Y0.val
  replace WW := WW.ext hE
  replace A0 := A0.ext hE
  replace A1 := A1.ext hE
  replace X0 := X0.ext hE
  replace TB := TB.ext hE
  replace cur := two_later hE cur
  replace EE := EE.trans hE
  clear hE
  go_wp2_with fail
  refine (joinT1 17 _ _ _ _ A0 (by first | omega | (simp only [Tm.size]; omega))).mono ?_
  rintro e wn ⟨vj, rfl, J1, hE⟩
  obtain ⟨ajJ1, mjJ1, cjJ1, rfl⟩ := J1.val
  replace WW := WW.ext hE
  replace A0 := A0.ext hE
  replace A1 := A1.ext hE
  replace X0 := X0.ext hE
  replace Y0 := Y0.ext hE
  replace TB := TB.ext hE
  replace cur := two_later hE cur
  replace EE := EE.trans hE
  clear hE
  go_wp2_with fail
  refine (joinT1 17 _ _ _ _ J1 (by first | omega | (simp only [Tm.size]; omega))).mono ?_
  rintro e wn ⟨vj, rfl, X1, hE⟩
  obtain ⟨ajX1, mjX1, cjX1, rfl⟩ := X1.val
  replace WW := WW.ext hE
  replace A0 := A0.ext hE
  replace A1 := A1.ext hE
  replace X0 := X0.ext hE
  replace Y0 := Y0.ext hE
  replace J1 := J1.ext hE
  replace TB := TB.ext hE
  replace cur := two_later hE cur
  replace EE := EE.trans hE
  clear hE
  clear J1
  go_wp2_with fail
  refine (joinT1 17 _ _ _ _ A0 (by first | omega | (simp only [Tm.size]; omega))).mono ?_
  rintro e wn ⟨vj, rfl, Y1, hE⟩
  obtain ⟨ajY1, mjY1, cjY1, rfl⟩ := Y1.val
  replace WW := WW.ext hE
  replace A0 := A0.ext hE
  replace A1 := A1.ext hE
  replace X0 := X0.ext hE
  replace Y0 := Y0.ext hE
  replace X1 := X1.ext hE
  replace TB := TB.ext hE
  replace cur := two_later hE cur
  replace EE := EE.trans hE
  clear hE
  go_wp2_with fail
  refine (joinT2 15 _ _ _ _ _ _ A0 A1 (by first | omega | (simp only [Tm.size]; omega))).mono ?_
  rintro e wn ⟨vj, rfl, J2, hE⟩
  obtain ⟨ajJ2, mjJ2, cjJ2, rfl⟩ := J2.val
  replace WW := WW.ext hE
  replace A0 := A0.ext hE
  replace A1 := A1.ext hE
  replace X0 := X0.ext hE
  replace Y0 := Y0.ext hE
  replace X1 := X1.ext hE
  replace Y1 := Y1.ext hE
  replace TB := TB.ext hE
  replace cur := two_later hE cur
  replace EE := EE.trans hE
  clear hE
  go_wp2_with fail
  refine (joinT2 15 _ _ _ _ _ _ A0 J2 (by first | omega | (simp only [Tm.size]; omega))).mono ?_
  rintro e wn ⟨vj, rfl, X2, hE⟩
  obtain ⟨ajX2, mjX2, cjX2, rfl⟩ := X2.val
  replace WW := WW.ext hE
  replace A0 := A0.ext hE
  replace A1 := A1.ext hE
  replace X0 := X0.ext hE
  replace Y0 := Y0.ext hE
  replace X1 := X1.ext hE
  replace Y1 := Y1.ext hE
  replace J2 := J2.ext hE
  replace TB := TB.ext hE
  replace cur := two_later hE cur
  replace EE := EE.trans hE
  clear hE
  clear J2
  go_wp2_with fail
  refine (joinT2 15 _ _ _ _ _ _ A0 A1 (by first | omega | (simp only [Tm.size]; omega))).mono ?_
  rintro e wn ⟨vj, rfl, Y2, hE⟩
  obtain ⟨ajY2, mjY2, cjY2, rfl⟩ := Y2.val
  replace WW := WW.ext hE
  replace A0 := A0.ext hE
  replace A1 := A1.ext hE
  replace X0 := X0.ext hE
  replace Y0 := Y0.ext hE
  replace X1 := X1.ext hE
  replace Y1 := Y1.ext hE
  replace X2 := X2.ext hE
  replace TB := TB.ext hE
  replace cur := two_later hE cur
  replace EE := EE.trans hE
  clear hE
  go_wp2_with fail
  refine (joinT2 16 _ _ _ _ _ _ A0 A1 (by first | omega | (simp only [Tm.size]; omega))).mono ?_
  rintro e wn ⟨vj, rfl, J3, hE⟩
  obtain ⟨ajJ3, mjJ3, cjJ3, rfl⟩ := J3.val
  replace WW := WW.ext hE
  replace A0 := A0.ext hE
  replace A1 := A1.ext hE
  replace X0 := X0.ext hE
  replace Y0 := Y0.ext hE
  replace X1 := X1.ext hE
  replace Y1 := Y1.ext hE
  replace X2 := X2.ext hE
  replace Y2 := Y2.ext hE
  replace TB := TB.ext hE
  replace cur := two_later hE cur
  replace EE := EE.trans hE
  clear hE
  go_wp2_with fail
  refine (joinT2 16 _ _ _ _ _ _ A0 J3 (by first | omega | (simp only [Tm.size]; omega))).mono ?_
  rintro e wn ⟨vj, rfl, X3, hE⟩
  obtain ⟨ajX3, mjX3, cjX3, rfl⟩ := X3.val
  replace WW := WW.ext hE
  replace A0 := A0.ext hE
  replace A1 := A1.ext hE
  replace X0 := X0.ext hE
  replace Y0 := Y0.ext hE
  replace X1 := X1.ext hE
  replace Y1 := Y1.ext hE
  replace X2 := X2.ext hE
  replace Y2 := Y2.ext hE
  replace J3 := J3.ext hE
  replace TB := TB.ext hE
  replace cur := two_later hE cur
  replace EE := EE.trans hE
  clear hE
  clear J3
  go_wp2_with fail
  refine (joinT2 16 _ _ _ _ _ _ A0 A1 (by first | omega | (simp only [Tm.size]; omega))).mono ?_
  rintro e wn ⟨vj, rfl, Y3, hE⟩
  obtain ⟨ajY3, mjY3, cjY3, rfl⟩ := Y3.val
  replace WW := WW.ext hE
  replace A0 := A0.ext hE
  replace A1 := A1.ext hE
  replace X0 := X0.ext hE
  replace Y0 := Y0.ext hE
  replace X1 := X1.ext hE
  replace Y1 := Y1.ext hE
  replace X2 := X2.ext hE
  replace Y2 := Y2.ext hE
  replace X3 := X3.ext hE
  replace TB := TB.ext hE
  replace cur := two_later hE cur
  replace EE := EE.trans hE
  clear hE
  go_wp2_with fail
  refine (joinT1 17 _ _ _ _ A0 (by first | omega | (simp only [Tm.size]; omega))).mono ?_
  rintro e wn ⟨vj, rfl, J4, hE⟩
  obtain ⟨ajJ4, mjJ4, cjJ4, rfl⟩ := J4.val
  replace WW := WW.ext hE
  replace A0 := A0.ext hE
  replace A1 := A1.ext hE
  replace X0 := X0.ext hE
  replace Y0 := Y0.ext hE
  replace X1 := X1.ext hE
  replace Y1 := Y1.ext hE
  replace X2 := X2.ext hE
  replace Y2 := Y2.ext hE
  replace X3 := X3.ext hE
  replace Y3 := Y3.ext hE
  replace TB := TB.ext hE
  replace cur := two_later hE cur
  replace EE := EE.trans hE
  clear hE
  go_wp2_with fail
  refine (joinT1 18 _ _ _ _ J4 (by first | omega | (simp only [Tm.size]; omega))).mono ?_
  rintro e wn ⟨vj, rfl, J5, hE⟩
  obtain ⟨ajJ5, mjJ5, cjJ5, rfl⟩ := J5.val
  replace WW := WW.ext hE
  replace A0 := A0.ext hE
  replace A1 := A1.ext hE
  replace X0 := X0.ext hE
  replace Y0 := Y0.ext hE
  replace X1 := X1.ext hE
  replace Y1 := Y1.ext hE
  replace X2 := X2.ext hE
  replace Y2 := Y2.ext hE
  replace X3 := X3.ext hE
  replace Y3 := Y3.ext hE
  replace J4 := J4.ext hE
  replace TB := TB.ext hE
  replace cur := two_later hE cur
  replace EE := EE.trans hE
  clear hE
  clear J4
  go_wp2_with fail
  refine (joinT1 17 _ _ _ _ J5 (by first | omega | (simp only [Tm.size]; omega))).mono ?_
  rintro e wn ⟨vj, rfl, X4, hE⟩
  obtain ⟨ajX4, mjX4, cjX4, rfl⟩ := X4.val
  replace WW := WW.ext hE
  replace A0 := A0.ext hE
  replace A1 := A1.ext hE
  replace X0 := X0.ext hE
  replace Y0 := Y0.ext hE
  replace X1 := X1.ext hE
  replace Y1 := Y1.ext hE
  replace X2 := X2.ext hE
  replace Y2 := Y2.ext hE
  replace X3 := X3.ext hE
  replace Y3 := Y3.ext hE
  replace J5 := J5.ext hE
  replace TB := TB.ext hE
  replace cur := two_later hE cur
  replace EE := EE.trans hE
  clear hE
  clear J5
  go_wp2_with fail
  refine (joinT1 17 _ _ _ _ A0 (by first | omega | (simp only [Tm.size]; omega))).mono ?_
  rintro e wn ⟨vj, rfl, J6, hE⟩
  obtain ⟨ajJ6, mjJ6, cjJ6, rfl⟩ := J6.val
  replace WW := WW.ext hE
  replace A0 := A0.ext hE
  replace A1 := A1.ext hE
  replace X0 := X0.ext hE
  replace Y0 := Y0.ext hE
  replace X1 := X1.ext hE
  replace Y1 := Y1.ext hE
  replace X2 := X2.ext hE
  replace Y2 := Y2.ext hE
  replace X3 := X3.ext hE
  replace Y3 := Y3.ext hE
  replace X4 := X4.ext hE
  replace TB := TB.ext hE
  replace cur := two_later hE cur
  replace EE := EE.trans hE
  clear hE
  go_wp2_with fail
  refine (joinT1 18 _ _ _ _ J6 (by first | omega | (simp only [Tm.size]; omega))).mono ?_
  rintro e wn ⟨vj, rfl, Y4, hE⟩
  obtain ⟨ajY4, mjY4, cjY4, rfl⟩ := Y4.val
  replace WW := WW.ext hE
  replace A0 := A0.ext hE
  replace A1 := A1.ext hE
  replace X0 := X0.ext hE
  replace Y0 := Y0.ext hE
  replace X1 := X1.ext hE
  replace Y1 := Y1.ext hE
  replace X2 := X2.ext hE
  replace Y2 := Y2.ext hE
  replace X3 := X3.ext hE
  replace Y3 := Y3.ext hE
  replace X4 := X4.ext hE
  replace J6 := J6.ext hE
  replace TB := TB.ext hE
  replace cur := two_later hE cur
  replace EE := EE.trans hE
  clear hE
  clear J6
  go_wp2_with fail
  refine (joinT1 18 _ _ _ _ A0 (by first | omega | (simp only [Tm.size]; omega))).mono ?_
  rintro e wn ⟨vj, rfl, J7, hE⟩
  obtain ⟨ajJ7, mjJ7, cjJ7, rfl⟩ := J7.val
  replace WW := WW.ext hE
  replace A0 := A0.ext hE
  replace A1 := A1.ext hE
  replace X0 := X0.ext hE
  replace Y0 := Y0.ext hE
  replace X1 := X1.ext hE
  replace Y1 := Y1.ext hE
  replace X2 := X2.ext hE
  replace Y2 := Y2.ext hE
  replace X3 := X3.ext hE
  replace Y3 := Y3.ext hE
  replace X4 := X4.ext hE
  replace Y4 := Y4.ext hE
  replace TB := TB.ext hE
  replace cur := two_later hE cur
  replace EE := EE.trans hE
  clear hE
  go_wp2_with fail
  refine (joinT1 17 _ _ _ _ J7 (by first | omega | (simp only [Tm.size]; omega))).mono ?_
  rintro e wn ⟨vj, rfl, J8, hE⟩
  obtain ⟨ajJ8, mjJ8, cjJ8, rfl⟩ := J8.val
  replace WW := WW.ext hE
  replace A0 := A0.ext hE
  replace A1 := A1.ext hE
  replace X0 := X0.ext hE
  replace Y0 := Y0.ext hE
  replace X1 := X1.ext hE
  replace Y1 := Y1.ext hE
  replace X2 := X2.ext hE
  replace Y2 := Y2.ext hE
  replace X3 := X3.ext hE
  replace Y3 := Y3.ext hE
  replace X4 := X4.ext hE
  replace Y4 := Y4.ext hE
  replace J7 := J7.ext hE
  replace TB := TB.ext hE
  replace cur := two_later hE cur
  replace EE := EE.trans hE
  clear hE
  clear J7
  go_wp2_with fail
  refine (joinT1 18 _ _ _ _ J8 (by first | omega | (simp only [Tm.size]; omega))).mono ?_
  rintro e wn ⟨vj, rfl, X5, hE⟩
  obtain ⟨ajX5, mjX5, cjX5, rfl⟩ := X5.val
  replace WW := WW.ext hE
  replace A0 := A0.ext hE
  replace A1 := A1.ext hE
  replace X0 := X0.ext hE
  replace Y0 := Y0.ext hE
  replace X1 := X1.ext hE
  replace Y1 := Y1.ext hE
  replace X2 := X2.ext hE
  replace Y2 := Y2.ext hE
  replace X3 := X3.ext hE
  replace Y3 := Y3.ext hE
  replace X4 := X4.ext hE
  replace Y4 := Y4.ext hE
  replace J8 := J8.ext hE
  replace TB := TB.ext hE
  replace cur := two_later hE cur
  replace EE := EE.trans hE
  clear hE
  clear J8
  go_wp2_with fail
  refine (joinT1 18 _ _ _ _ A0 (by first | omega | (simp only [Tm.size]; omega))).mono ?_
  rintro e wn ⟨vj, rfl, J9, hE⟩
  obtain ⟨ajJ9, mjJ9, cjJ9, rfl⟩ := J9.val
  replace WW := WW.ext hE
  replace A0 := A0.ext hE
  replace A1 := A1.ext hE
  replace X0 := X0.ext hE
  replace Y0 := Y0.ext hE
  replace X1 := X1.ext hE
  replace Y1 := Y1.ext hE
  replace X2 := X2.ext hE
  replace Y2 := Y2.ext hE
  replace X3 := X3.ext hE
  replace Y3 := Y3.ext hE
  replace X4 := X4.ext hE
  replace Y4 := Y4.ext hE
  replace X5 := X5.ext hE
  replace TB := TB.ext hE
  replace cur := two_later hE cur
  replace EE := EE.trans hE
  clear hE
  go_wp2_with fail
  refine (joinT1 17 _ _ _ _ J9 (by first | omega | (simp only [Tm.size]; omega))).mono ?_
  rintro e wn ⟨vj, rfl, Y5, hE⟩
  obtain ⟨ajY5, mjY5, cjY5, rfl⟩ := Y5.val
  replace WW := WW.ext hE
  replace A0 := A0.ext hE
  replace A1 := A1.ext hE
  replace X0 := X0.ext hE
  replace Y0 := Y0.ext hE
  replace X1 := X1.ext hE
  replace Y1 := Y1.ext hE
  replace X2 := X2.ext hE
  replace Y2 := Y2.ext hE
  replace X3 := X3.ext hE
  replace Y3 := Y3.ext hE
  replace X4 := X4.ext hE
  replace Y4 := Y4.ext hE
  replace X5 := X5.ext hE
  replace J9 := J9.ext hE
  replace TB := TB.ext hE
  replace cur := two_later hE cur
  replace EE := EE.trans hE
  clear hE
  clear J9
  skip
  skip
  skip
  skip
  skip
  skip
  skip
  skip
  skip
  skip
  skip
  skip
  go_wp2_with fail
  have hE := ext_al (Ext.refl wn) (Obj.cells #[.slice ajX0 mjX0 cjX0, .slice ajY0 mjY0 cjY0, .slice ajX1 mjX1 cjX1, .slice ajY1 mjY1 cjY1, .slice ajX2 mjX2 cjX2, .slice ajY2 mjY2 cjY2, .slice ajX3 mjX3 cjX3, .slice ajY3 mjY3 cjY3, .slice ajX4 mjX4 cjX4, .slice ajY4 mjY4 cjY4, .slice ajX5 mjX5 cjX5, .slice ajY5 mjY5 cjY5] 53)
  have hbk := blk_new wn (Obj.cells #[.slice ajX0 mjX0 cjX0, .slice ajY0 mjY0 cjY0, .slice ajX1 mjX1 cjX1, .slice ajY1 mjY1 cjY1, .slice ajX2 mjX2 cjX2, .slice ajY2 mjY2 cjY2, .slice ajX3 mjX3 cjX3, .slice ajY3 mjY3 cjY3, .slice ajX4 mjX4 cjX4, .slice ajY4 mjY4 cjY4, .slice ajX5 mjX5 cjX5, .slice ajY5 mjY5 cjY5] 53)
  have HBK := Lib.hid hbk
  clear hbk
  generalize hbL : wn.heap.size = bL at *
  clear hbL
  generalize hwn : wn.alloc (Obj.cells #[.slice ajX0 mjX0 cjX0, .slice ajY0 mjY0 cjY0, .slice ajX1 mjX1 cjX1, .slice ajY1 mjY1 cjY1, .slice ajX2 mjX2 cjX2, .slice ajY2 mjY2 cjY2, .slice ajX3 mjX3 cjX3, .slice ajY3 mjY3 cjY3, .slice ajX4 mjX4 cjX4, .slice ajY4 mjY4 cjY4, .slice ajX5 mjX5 cjX5, .slice ajY5 mjY5 cjY5] 53) = wn3 at *
  clear hwn
  replace WW := WW.ext hE
  replace A0 := A0.ext hE
  replace A1 := A1.ext hE
  replace X0 := X0.ext hE
  replace Y0 := Y0.ext hE
  replace X1 := X1.ext hE
  replace Y1 := Y1.ext hE
  replace X2 := X2.ext hE
  replace Y2 := Y2.ext hE
  replace X3 := X3.ext hE
  replace Y3 := Y3.ext hE
  replace X4 := X4.ext hE
  replace Y4 := Y4.ext hE
  replace X5 := X5.ext hE
  replace Y5 := Y5.ext hE
  replace TB := TB.ext hE
  replace cur := two_later hE cur
  replace EE := EE.trans hE
  clear hE
  have HWW := Lib.hid WW
  have HA0 := Lib.hid A0
  have HA1 := Lib.hid A1
  have HX0 := Lib.hid X0
  have HY0 := Lib.hid Y0
  have HX1 := Lib.hid X1
  have HY1 := Lib.hid Y1
  have HX2 := Lib.hid X2
  have HY2 := Lib.hid Y2
  have HX3 := Lib.hid X3
  have HY3 := Lib.hid Y3
  have HX4 := Lib.hid X4
  have HY4 := Lib.hid Y4
  have HX5 := Lib.hid X5
  have HY5 := Lib.hid Y5
  have HTB := Lib.hid TB
  have HEE := Lib.hid EE
  have HCU := Lib.hid cur
  clear WW A0 A1 X0 Y0 X1 Y1 X2 Y2 X3 Y3 X4 Y4 X5 Y5 TB EE cur
  obtain ⟨wL, rfl⟩ : ∃ wL, wL = wn3 := ⟨_, rfl⟩
  go_loopg [11] 6 (fun m x wr => ∃ k : Nat, m + k = 6 ∧ x = .int .i64 (k : Int) ∧ Ext wL wr)
  case atStart => exact ⟨0, by omega, by go_num, Ext.refl _⟩
  case round =>
    obtain ⟨k, hmk, rfl, hE⟩ := hrel
    have HMK := Lib.hid hmk
    have WW := HWW.out.ext hE
    have A0 := HA0.out.ext hE
    have A1 := HA1.out.ext hE
    have X0 := HX0.out.ext hE
    have Y0 := HY0.out.ext hE
    have X1 := HX1.out.ext hE
    have Y1 := HY1.out.ext hE
    have X2 := HX2.out.ext hE
    have Y2 := HY2.out.ext hE
    have X3 := HX3.out.ext hE
    have Y3 := HY3.out.ext hE
    have X4 := HX4.out.ext hE
    have Y4 := HY4.out.ext hE
    have X5 := HX5.out.ext hE
    have Y5 := HY5.out.ext hE
    have TB := HTB.out.ext hE
    have EE := HEE.out.trans hE
    have EX := hE
    have cur := two_later hE HCU.out
    have hbk := blk_ext HBK.out hE
    have hk : k = 0 ∨ k = 1 ∨ k = 2 ∨ k = 3 ∨ k = 4 ∨ k = 5 ∨ k = 6 := by omega
    clear hmk hE
    rcases hk with rfl | rfl | rfl | rfl | rfl | rfl | rfl
    · clear A0 A1 X1 Y1 X2 Y2 X3 Y3 X4 Y4 X5 Y5
      have cl := And.intro (blk_cell hbk (i := 0) (v := .slice ajX0 mjX0 cjX0) rfl) (blk_cell hbk (i := 1) (v := .slice ajY0 mjY0 cjY0) rfl)
      clear hbk
      go_wp2_with fail
      have hE := Below.drew (Ext.refl wr)
      replace cl := And.intro (cell_later hE cl.1) (cell_later hE cl.2)
      replace WW := WW.ext hE
      replace X0 := X0.ext hE
      replace Y0 := Y0.ext hE
      replace EX := EX.trans hE
      replace TB := TB.ext hE
      replace cur := two_later hE cur
      replace EE := EE.trans hE
      clear hE
      go_region_held3 (fun w' => (w'.cell? ⟨wB, 0, none⟩ = some (.slice axS Sm.length cxS) ∧ w'.cell? ⟨wB, 1, none⟩ = some (.slice axL Lp.length cxL)) ∧ (w'.cell? ⟨bL, 0, none⟩ = some (.slice ajX0 mjX0 cjX0) ∧ w'.cell? ⟨bL, 1, none⟩ = some (.slice ajY0 mjY0 cjY0)))
        (first | exact ⟨cur, cl⟩ | exact ⟨two_drew cur, pair_drew cl⟩ | go_keep)
        (first
          | (go_at_call 25
             refine (holds_b _ _ _ _ Sm Lp _ _ X0 TB (GX0.out) (by omega) (by omega) WW WOK.out EX0.out).mono ?_
             rintro e wn ⟨rfl, hE⟩
             replace cl := And.intro (cell_later hE cl.1) (cell_later hE cl.2)
             replace WW := WW.ext hE
             replace X0 := X0.ext hE
             replace Y0 := Y0.ext hE
             replace EX := EX.trans hE
             replace TB := TB.ext hE
             replace cur := two_later hE cur
             replace EE := EE.trans hE
             clear hE))
      go_wp2_with fail
      have hE := Below.drew (Ext.refl wn)
      replace cl := And.intro (cell_later hE cl.1) (cell_later hE cl.2)
      replace WW := WW.ext hE
      replace X0 := X0.ext hE
      replace Y0 := Y0.ext hE
      replace EX := EX.trans hE
      replace TB := TB.ext hE
      replace cur := two_later hE cur
      replace EE := EE.trans hE
      clear hE
      go_region_held3 (fun w' => (w'.cell? ⟨wB, 0, none⟩ = some (.slice axS Sm.length cxS) ∧ w'.cell? ⟨wB, 1, none⟩ = some (.slice axL Lp.length cxL)) ∧ (w'.cell? ⟨bL, 0, none⟩ = some (.slice ajX0 mjX0 cjX0) ∧ w'.cell? ⟨bL, 1, none⟩ = some (.slice ajY0 mjY0 cjY0)))
        (first | exact ⟨cur, cl⟩ | exact ⟨two_drew cur, pair_drew cl⟩ | go_keep)
        (first
          | (go_at_call 25
             refine (holds_b _ _ _ _ Sm Lp _ _ Y0 TB (GY0.out) (by omega) (by omega) WW WOK.out EY0.out).mono ?_
             rintro e wn ⟨rfl, hE⟩
             replace cl := And.intro (cell_later hE cl.1) (cell_later hE cl.2)
             replace WW := WW.ext hE
             replace X0 := X0.ext hE
             replace Y0 := Y0.ext hE
             replace EX := EX.trans hE
             replace TB := TB.ext hE
             replace cur := two_later hE cur
             replace EE := EE.trans hE
             clear hE))
      cases b0
      all_goals
        go_wp2_with fail
        go_roundg (gk - 1)
        case measure => have := HMK.out; omega
        case rel => exact ⟨1, by have := HMK.out; omega, by go_num, EX⟩
    · clear A0 A1 X0 Y0 X2 Y2 X3 Y3 X4 Y4 X5 Y5
      have cl := And.intro (blk_cell hbk (i := 2) (v := .slice ajX1 mjX1 cjX1) rfl) (blk_cell hbk (i := 3) (v := .slice ajY1 mjY1 cjY1) rfl)
      clear hbk
      go_wp2_with fail
      have hE := Below.drew (Ext.refl wr)
      replace cl := And.intro (cell_later hE cl.1) (cell_later hE cl.2)
      replace WW := WW.ext hE
      replace X1 := X1.ext hE
      replace Y1 := Y1.ext hE
      replace EX := EX.trans hE
      replace TB := TB.ext hE
      replace cur := two_later hE cur
      replace EE := EE.trans hE
      clear hE
      go_region_held3 (fun w' => (w'.cell? ⟨wB, 0, none⟩ = some (.slice axS Sm.length cxS) ∧ w'.cell? ⟨wB, 1, none⟩ = some (.slice axL Lp.length cxL)) ∧ (w'.cell? ⟨bL, 2, none⟩ = some (.slice ajX1 mjX1 cjX1) ∧ w'.cell? ⟨bL, 3, none⟩ = some (.slice ajY1 mjY1 cjY1)))
        (first | exact ⟨cur, cl⟩ | exact ⟨two_drew cur, pair_drew cl⟩ | go_keep)
        (first
          | (go_at_call 25
             refine (holds_b _ _ _ _ Sm Lp _ _ X1 TB (GX1.out) (by omega) (by omega) WW WOK.out EX1.out).mono ?_
             rintro e wn ⟨rfl, hE⟩
             replace cl := And.intro (cell_later hE cl.1) (cell_later hE cl.2)
             replace WW := WW.ext hE
             replace X1 := X1.ext hE
             replace Y1 := Y1.ext hE
             replace EX := EX.trans hE
             replace TB := TB.ext hE
             replace cur := two_later hE cur
             replace EE := EE.trans hE
             clear hE))
      go_wp2_with fail
      have hE := Below.drew (Ext.refl wn)
      replace cl := And.intro (cell_later hE cl.1) (cell_later hE cl.2)
      replace WW := WW.ext hE
      replace X1 := X1.ext hE
      replace Y1 := Y1.ext hE
      replace EX := EX.trans hE
      replace TB := TB.ext hE
      replace cur := two_later hE cur
      replace EE := EE.trans hE
      clear hE
      go_region_held3 (fun w' => (w'.cell? ⟨wB, 0, none⟩ = some (.slice axS Sm.length cxS) ∧ w'.cell? ⟨wB, 1, none⟩ = some (.slice axL Lp.length cxL)) ∧ (w'.cell? ⟨bL, 2, none⟩ = some (.slice ajX1 mjX1 cjX1) ∧ w'.cell? ⟨bL, 3, none⟩ = some (.slice ajY1 mjY1 cjY1)))
        (first | exact ⟨cur, cl⟩ | exact ⟨two_drew cur, pair_drew cl⟩ | go_keep)
        (first
          | (go_at_call 25
             refine (holds_b _ _ _ _ Sm Lp _ _ Y1 TB (GY1.out) (by omega) (by omega) WW WOK.out EY1.out).mono ?_
             rintro e wn ⟨rfl, hE⟩
             replace cl := And.intro (cell_later hE cl.1) (cell_later hE cl.2)
             replace WW := WW.ext hE
             replace X1 := X1.ext hE
             replace Y1 := Y1.ext hE
             replace EX := EX.trans hE
             replace TB := TB.ext hE
             replace cur := two_later hE cur
             replace EE := EE.trans hE
             clear hE))
      cases b1
      all_goals
        go_wp2_with fail
        go_roundg (gk - 1)
        case measure => have := HMK.out; omega
        case rel => exact ⟨2, by have := HMK.out; omega, by go_num, EX⟩
    · clear A0 A1 X0 Y0 X1 Y1 X3 Y3 X4 Y4 X5 Y5
      have cl := And.intro (blk_cell hbk (i := 4) (v := .slice ajX2 mjX2 cjX2) rfl) (blk_cell hbk (i := 5) (v := .slice ajY2 mjY2 cjY2) rfl)
      clear hbk
      go_wp2_with fail
      have hE := Below.drew (Ext.refl wr)
      replace cl := And.intro (cell_later hE cl.1) (cell_later hE cl.2)
      replace WW := WW.ext hE
      replace X2 := X2.ext hE
      replace Y2 := Y2.ext hE
      replace EX := EX.trans hE
      replace TB := TB.ext hE
      replace cur := two_later hE cur
      replace EE := EE.trans hE
      clear hE
      go_region_held3 (fun w' => (w'.cell? ⟨wB, 0, none⟩ = some (.slice axS Sm.length cxS) ∧ w'.cell? ⟨wB, 1, none⟩ = some (.slice axL Lp.length cxL)) ∧ (w'.cell? ⟨bL, 4, none⟩ = some (.slice ajX2 mjX2 cjX2) ∧ w'.cell? ⟨bL, 5, none⟩ = some (.slice ajY2 mjY2 cjY2)))
        (first | exact ⟨cur, cl⟩ | exact ⟨two_drew cur, pair_drew cl⟩ | go_keep)
        (first
          | (go_at_call 25
             refine (holds_b _ _ _ _ Sm Lp _ _ X2 TB (GX2.out) (by omega) (by omega) WW WOK.out EX2.out).mono ?_
             rintro e wn ⟨rfl, hE⟩
             replace cl := And.intro (cell_later hE cl.1) (cell_later hE cl.2)
             replace WW := WW.ext hE
             replace X2 := X2.ext hE
             replace Y2 := Y2.ext hE
             replace EX := EX.trans hE
             replace TB := TB.ext hE
             replace cur := two_later hE cur
             replace EE := EE.trans hE
             clear hE))
      go_wp2_with fail
      have hE := Below.drew (Ext.refl wn)
      replace cl := And.intro (cell_later hE cl.1) (cell_later hE cl.2)
      replace WW := WW.ext hE
      replace X2 := X2.ext hE
      replace Y2 := Y2.ext hE
      replace EX := EX.trans hE
      replace TB := TB.ext hE
      replace cur := two_later hE cur
      replace EE := EE.trans hE
      clear hE
      go_region_held3 (fun w' => (w'.cell? ⟨wB, 0, none⟩ = some (.slice axS Sm.length cxS) ∧ w'.cell? ⟨wB, 1, none⟩ = some (.slice axL Lp.length cxL)) ∧ (w'.cell? ⟨bL, 4, none⟩ = some (.slice ajX2 mjX2 cjX2) ∧ w'.cell? ⟨bL, 5, none⟩ = some (.slice ajY2 mjY2 cjY2)))
        (first | exact ⟨cur, cl⟩ | exact ⟨two_drew cur, pair_drew cl⟩ | go_keep)
        (first
          | (go_at_call 25
             refine (holds_b _ _ _ _ Sm Lp _ _ Y2 TB (GY2.out) (by omega) (by omega) WW WOK.out EY2.out).mono ?_
             rintro e wn ⟨rfl, hE⟩
             replace cl := And.intro (cell_later hE cl.1) (cell_later hE cl.2)
             replace WW := WW.ext hE
             replace X2 := X2.ext hE
             replace Y2 := Y2.ext hE
             replace EX := EX.trans hE
             replace TB := TB.ext hE
             replace cur := two_later hE cur
             replace EE := EE.trans hE
             clear hE))
      cases b2
      all_goals
        go_wp2_with fail
        go_roundg (gk - 1)
        case measure => have := HMK.out; omega
        case rel => exact ⟨3, by have := HMK.out; omega, by go_num, EX⟩
    · clear A0 A1 X0 Y0 X1 Y1 X2 Y2 X4 Y4 X5 Y5
      have cl := And.intro (blk_cell hbk (i := 6) (v := .slice ajX3 mjX3 cjX3) rfl) (blk_cell hbk (i := 7) (v := .slice ajY3 mjY3 cjY3) rfl)
      clear hbk
      go_wp2_with fail
      have hE := Below.drew (Ext.refl wr)
      replace cl := And.intro (cell_later hE cl.1) (cell_later hE cl.2)
      replace WW := WW.ext hE
      replace X3 := X3.ext hE
      replace Y3 := Y3.ext hE
      replace EX := EX.trans hE
      replace TB := TB.ext hE
      replace cur := two_later hE cur
      replace EE := EE.trans hE
      clear hE
      go_region_held3 (fun w' => (w'.cell? ⟨wB, 0, none⟩ = some (.slice axS Sm.length cxS) ∧ w'.cell? ⟨wB, 1, none⟩ = some (.slice axL Lp.length cxL)) ∧ (w'.cell? ⟨bL, 6, none⟩ = some (.slice ajX3 mjX3 cjX3) ∧ w'.cell? ⟨bL, 7, none⟩ = some (.slice ajY3 mjY3 cjY3)))
        (first | exact ⟨cur, cl⟩ | exact ⟨two_drew cur, pair_drew cl⟩ | go_keep)
        (first
          | (go_at_call 25
             refine (holds_b _ _ _ _ Sm Lp _ _ X3 TB (GX3.out) (by omega) (by omega) WW WOK.out EX3.out).mono ?_
             rintro e wn ⟨rfl, hE⟩
             replace cl := And.intro (cell_later hE cl.1) (cell_later hE cl.2)
             replace WW := WW.ext hE
             replace X3 := X3.ext hE
             replace Y3 := Y3.ext hE
             replace EX := EX.trans hE
             replace TB := TB.ext hE
             replace cur := two_later hE cur
             replace EE := EE.trans hE
             clear hE))
      go_wp2_with fail
      have hE := Below.drew (Ext.refl wn)
      replace cl := And.intro (cell_later hE cl.1) (cell_later hE cl.2)
      replace WW := WW.ext hE
      replace X3 := X3.ext hE
      replace Y3 := Y3.ext hE
      replace EX := EX.trans hE
      replace TB := TB.ext hE
      replace cur := two_later hE cur
      replace EE := EE.trans hE
      clear hE
      go_region_held3 (fun w' => (w'.cell? ⟨wB, 0, none⟩ = some (.slice axS Sm.length cxS) ∧ w'.cell? ⟨wB, 1, none⟩ = some (.slice axL Lp.length cxL)) ∧ (w'.cell? ⟨bL, 6, none⟩ = some (.slice ajX3 mjX3 cjX3) ∧ w'.cell? ⟨bL, 7, none⟩ = some (.slice ajY3 mjY3 cjY3)))
        (first | exact ⟨cur, cl⟩ | exact ⟨two_drew cur, pair_drew cl⟩ | go_keep)
        (first
          | (go_at_call 25
             refine (holds_b _ _ _ _ Sm Lp _ _ Y3 TB (GY3.out) (by omega) (by omega) WW WOK.out EY3.out).mono ?_
             rintro e wn ⟨rfl, hE⟩
             replace cl := And.intro (cell_later hE cl.1) (cell_later hE cl.2)
             replace WW := WW.ext hE
             replace X3 := X3.ext hE
             replace Y3 := Y3.ext hE
             replace EX := EX.trans hE
             replace TB := TB.ext hE
             replace cur := two_later hE cur
             replace EE := EE.trans hE
             clear hE))
      cases b3
      all_goals
        go_wp2_with fail
        go_roundg (gk - 1)
        case measure => have := HMK.out; omega
        case rel => exact ⟨4, by have := HMK.out; omega, by go_num, EX⟩
    · clear A0 A1 X0 Y0 X1 Y1 X2 Y2 X3 Y3 X5 Y5
      have cl := And.intro (blk_cell hbk (i := 8) (v := .slice ajX4 mjX4 cjX4) rfl) (blk_cell hbk (i := 9) (v := .slice ajY4 mjY4 cjY4) rfl)
      clear hbk
      go_wp2_with fail
      have hE := Below.drew (Ext.refl wr)
      replace cl := And.intro (cell_later hE cl.1) (cell_later hE cl.2)
      replace WW := WW.ext hE
      replace X4 := X4.ext hE
      replace Y4 := Y4.ext hE
      replace EX := EX.trans hE
      replace TB := TB.ext hE
      replace cur := two_later hE cur
      replace EE := EE.trans hE
      clear hE
      go_region_held3 (fun w' => (w'.cell? ⟨wB, 0, none⟩ = some (.slice axS Sm.length cxS) ∧ w'.cell? ⟨wB, 1, none⟩ = some (.slice axL Lp.length cxL)) ∧ (w'.cell? ⟨bL, 8, none⟩ = some (.slice ajX4 mjX4 cjX4) ∧ w'.cell? ⟨bL, 9, none⟩ = some (.slice ajY4 mjY4 cjY4)))
        (first | exact ⟨cur, cl⟩ | exact ⟨two_drew cur, pair_drew cl⟩ | go_keep)
        (first
          | (go_at_call 25
             refine (holds_b _ _ _ _ Sm Lp _ _ X4 TB (GX4.out) (by omega) (by omega) WW WOK.out EX4.out).mono ?_
             rintro e wn ⟨rfl, hE⟩
             replace cl := And.intro (cell_later hE cl.1) (cell_later hE cl.2)
             replace WW := WW.ext hE
             replace X4 := X4.ext hE
             replace Y4 := Y4.ext hE
             replace EX := EX.trans hE
             replace TB := TB.ext hE
             replace cur := two_later hE cur
             replace EE := EE.trans hE
             clear hE))
      go_wp2_with fail
      have hE := Below.drew (Ext.refl wn)
      replace cl := And.intro (cell_later hE cl.1) (cell_later hE cl.2)
      replace WW := WW.ext hE
      replace X4 := X4.ext hE
      replace Y4 := Y4.ext hE
      replace EX := EX.trans hE
      replace TB := TB.ext hE
      replace cur := two_later hE cur
      replace EE := EE.trans hE
      clear hE
      go_region_held3 (fun w' => (w'.cell? ⟨wB, 0, none⟩ = some (.slice axS Sm.length cxS) ∧ w'.cell? ⟨wB, 1, none⟩ = some (.slice axL Lp.length cxL)) ∧ (w'.cell? ⟨bL, 8, none⟩ = some (.slice ajX4 mjX4 cjX4) ∧ w'.cell? ⟨bL, 9, none⟩ = some (.slice ajY4 mjY4 cjY4)))
        (first | exact ⟨cur, cl⟩ | exact ⟨two_drew cur, pair_drew cl⟩ | go_keep)
        (first
          | (go_at_call 25
             refine (holds_b _ _ _ _ Sm Lp _ _ Y4 TB (GY4.out) (by omega) (by omega) WW WOK.out EY4.out).mono ?_
             rintro e wn ⟨rfl, hE⟩
             replace cl := And.intro (cell_later hE cl.1) (cell_later hE cl.2)
             replace WW := WW.ext hE
             replace X4 := X4.ext hE
             replace Y4 := Y4.ext hE
             replace EX := EX.trans hE
             replace TB := TB.ext hE
             replace cur := two_later hE cur
             replace EE := EE.trans hE
             clear hE))
      cases b4
      all_goals
        go_wp2_with fail
        go_roundg (gk - 1)
        case measure => have := HMK.out; omega
        case rel => exact ⟨5, by have := HMK.out; omega, by go_num, EX⟩
    · clear A0 A1 X0 Y0 X1 Y1 X2 Y2 X3 Y3 X4 Y4
      have cl := And.intro (blk_cell hbk (i := 10) (v := .slice ajX5 mjX5 cjX5) rfl) (blk_cell hbk (i := 11) (v := .slice ajY5 mjY5 cjY5) rfl)
      clear hbk
      go_wp2_with fail
      have hE := Below.drew (Ext.refl wr)
      replace cl := And.intro (cell_later hE cl.1) (cell_later hE cl.2)
      replace WW := WW.ext hE
      replace X5 := X5.ext hE
      replace Y5 := Y5.ext hE
      replace EX := EX.trans hE
      replace TB := TB.ext hE
      replace cur := two_later hE cur
      replace EE := EE.trans hE
      clear hE
      go_region_held3 (fun w' => (w'.cell? ⟨wB, 0, none⟩ = some (.slice axS Sm.length cxS) ∧ w'.cell? ⟨wB, 1, none⟩ = some (.slice axL Lp.length cxL)) ∧ (w'.cell? ⟨bL, 10, none⟩ = some (.slice ajX5 mjX5 cjX5) ∧ w'.cell? ⟨bL, 11, none⟩ = some (.slice ajY5 mjY5 cjY5)))
        (first | exact ⟨cur, cl⟩ | exact ⟨two_drew cur, pair_drew cl⟩ | go_keep)
        (first
          | (go_at_call 25
             refine (holds_b _ _ _ _ Sm Lp _ _ X5 TB (GX5.out) (by omega) (by omega) WW WOK.out EX5.out).mono ?_
             rintro e wn ⟨rfl, hE⟩
             replace cl := And.intro (cell_later hE cl.1) (cell_later hE cl.2)
             replace WW := WW.ext hE
             replace X5 := X5.ext hE
             replace Y5 := Y5.ext hE
             replace EX := EX.trans hE
             replace TB := TB.ext hE
             replace cur := two_later hE cur
             replace EE := EE.trans hE
             clear hE))
      go_wp2_with fail
      have hE := Below.drew (Ext.refl wn)
      replace cl := And.intro (cell_later hE cl.1) (cell_later hE cl.2)
      replace WW := WW.ext hE
      replace X5 := X5.ext hE
      replace Y5 := Y5.ext hE
      replace EX := EX.trans hE
      replace TB := TB.ext hE
      replace cur := two_later hE cur
      replace EE := EE.trans hE
      clear hE
      go_region_held3 (fun w' => (w'.cell? ⟨wB, 0, none⟩ = some (.slice axS Sm.length cxS) ∧ w'.cell? ⟨wB, 1, none⟩ = some (.slice axL Lp.length cxL)) ∧ (w'.cell? ⟨bL, 10, none⟩ = some (.slice ajX5 mjX5 cjX5) ∧ w'.cell? ⟨bL, 11, none⟩ = some (.slice ajY5 mjY5 cjY5)))
        (first | exact ⟨cur, cl⟩ | exact ⟨two_drew cur, pair_drew cl⟩ | go_keep)
        (first
          | (go_at_call 25
             refine (holds_b _ _ _ _ Sm Lp _ _ Y5 TB (GY5.out) (by omega) (by omega) WW WOK.out EY5.out).mono ?_
             rintro e wn ⟨rfl, hE⟩
             replace cl := And.intro (cell_later hE cl.1) (cell_later hE cl.2)
             replace WW := WW.ext hE
             replace X5 := X5.ext hE
             replace Y5 := Y5.ext hE
             replace EX := EX.trans hE
             replace TB := TB.ext hE
             replace cur := two_later hE cur
             replace EE := EE.trans hE
             clear hE))
      cases b5
      all_goals
        go_wp2_with fail
        go_roundg (gk - 1)
        case measure => have := HMK.out; omega
        case rel => exact ⟨6, by have := HMK.out; omega, by go_num, EX⟩
    · clear A1 X0 Y0 X1 Y1 X2 Y2 X3 Y3 X4 Y4 X5 Y5
      go_wp2_with fail
      refine (moments_no _ _ _ A0 TB (F0.out.isF (by omega) (by omega))).mono ?_
      rintro e wn ⟨rfl, hE⟩
      replace EE := EE.trans hE
      clear hE
      go_wp2
      go_ret
      exact ⟨rfl, EE⟩


end Go.Proofs.YtffjhhpikgodiaaDoor
