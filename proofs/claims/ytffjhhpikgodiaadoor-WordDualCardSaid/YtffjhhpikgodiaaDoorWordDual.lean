/- The law WordDual. -/
import Derived.Test.YtffjhhpikgodiaaDoorWordL
namespace Go.Proofs.YtffjhhpikgodiaaDoor
open Go.RowKit

set_option maxRecDepth 100000 in
set_option maxHeartbeats 8000000 in
theorem wordDual_law (v0 v1 : Value) (cs : Array Value) (W : World) (ht : Tab W) (h0 : Cells Tryd.prog W 22 [v0]) (h1 : Cells Tryd.prog W 22 [v1]) (hs : Cells Tryd.prog W 40 cs.toList) :
    Calls Tryd.prog 8 #[v0, v1, .agg cs] W fun e w' => e = .returned (.bool true) ∧ Ext W w' := by
  obtain ⟨raw0, o0, hraw0⟩ := raw_for h0
  obtain ⟨raw1, o1, hraw1⟩ := raw_for h1
  obtain ⟨aS, aL, cS, cL, S, L, rfl, hS, hL, iS, iL⟩ := spell_of hs
  have EE := ext_al (Ext.refl W) (Obj.cells #[.slice aS S.length cS, .slice aL L.length cL] 40)
  have TB := ht.ext EE
  have HWA := Lib.hid (word_any _ _ S L _ (hS.ext EE) (hL.ext EE) iS iL)
  have WOK := Lib.hid (word_ok S L)
  replace o0 := ops_ext o0 EE
  have M0 := Lib.hid (show ∀ w, Ops w v0 raw0 → Calls Tryd.prog 16 #[v0, .int .i64 3, .int .i64 2] w (fun e w' => ∃ v', e = .returned v' ∧ w'.ownsRow w.heap.size 51 2 v' (forO raw0 3 2).flat.length ((forO raw0 3 2).flat.flatMap opc) ∧ Ext w w') from fun w h => mkFormula v0 raw0 3 2 w h hraw0 (by omega) (by omega) (by omega))
  have F0 := Lib.hid (fm_for raw0 2)
  generalize forO raw0 3 2 = t0 at *
  have hs0 := F0.out.size
  replace o1 := ops_ext o1 EE
  have M1 := Lib.hid (show ∀ w, Ops w v1 raw1 → Calls Tryd.prog 16 #[v1, .int .i64 3, .int .i64 2] w (fun e w' => ∃ v', e = .returned v' ∧ w'.ownsRow w.heap.size 51 2 v' (forO raw1 3 2).flat.length ((forO raw1 3 2).flat.flatMap opc) ∧ Ext w w') from fun w h => mkFormula v1 raw1 3 2 w h hraw1 (by omega) (by omega) (by omega))
  have F1 := Lib.hid (fm_for raw1 2)
  generalize forO raw1 3 2 = t1 at *
  have hs1 := F1.out.size
  have hSl : S.length = S.length := rfl
  generalize letsL S = Sm at *
  generalize loopW L = Lp at *
  obtain ⟨b0, hb0⟩ : ∃ b, satB ⟨Sm ++ Lp, Sm.length⟩ (.n1 18 0 t0) 0 = b := ⟨_, rfl⟩
  obtain ⟨b1, hb1⟩ : ∃ b, satB ⟨Sm ++ Lp, Sm.length⟩ (.n2 16 0 t0 t1) 0 = b := ⟨_, rfl⟩
  have E0 := Lib.hid hb0
  have E1 := Lib.hid ((dual_glo ⟨Sm ++ Lp, Sm.length⟩ 0 0 0 0 t0 0).symm.trans hb0)
  have E2 := Lib.hid hb1
  have E3 := Lib.hid ((dual_rel ⟨Sm ++ Lp, Sm.length⟩ 0 0 0 0 0 t0 t1 0).symm.trans hb1)
  have E4 := Lib.hid (or_not ⟨Sm ++ Lp, Sm.length⟩ 0 0 t0 0)
  have N0 := Lib.hid (F0.out.one 10 18 2 (.inl ⟨rfl, by omega⟩) (by omega))
  have N1 := Lib.hid (F1.out.one 10 18 2 (.inl ⟨rfl, by omega⟩) (by omega))
  have N2 := Lib.hid (N0.out.one 17 19 3 (.inr ⟨by omega, by omega⟩) (by omega))
  have N3 := Lib.hid (N0.out.two N1.out 15 37 5 (.inr ⟨by omega, by omega⟩) (by omega))
  clear hb0 hb1
  clear ht hs hS hL iS iL hSl h0 hraw0 h1 hraw1
  go_enter Tryd.func8, Tryd.ntmps8
  go_wp2_with fail
  generalize W.alloc (Obj.cells #[.slice aS S.length cS, .slice aL L.length cL] 40) = w0 at *
  refine HWA.out.mono ?_
  rintro e wn ⟨sv, lv, rfl, WW, hE⟩
  clear HWA
  replace o0 := ops_ext o0 hE
  replace o1 := ops_ext o1 hE
  replace TB := TB.ext hE
  replace EE := EE.trans hE
  clear hE
  obtain ⟨xsS, xeS, axS, cxS, rfl, xrS⟩ := WW.st
  obtain ⟨xsL, xeL, axL, cxL, rfl, xrL⟩ := WW.lp
  clear xeS xrS xeL xrL
  go_wp2_with fail
  have hE := ext_al (Ext.refl wn) (Obj.cells #[.slice axS Sm.length cxS, .slice axL Lp.length cxL] 43)
  have hbk := blk_new wn (Obj.cells #[.slice axS Sm.length cxS, .slice axL Lp.length cxL] 43)
  have c0 := blk_cell hbk (i := 0) (v := .slice axS Sm.length cxS) rfl
  have c1 := blk_cell hbk (i := 1) (v := .slice axL Lp.length cxL) rfl
  clear hbk
  generalize hwB : wn.heap.size = wB at *
  clear hwB
  generalize hwn : wn.alloc (Obj.cells #[.slice axS Sm.length cxS, .slice axL Lp.length cxL] 43) = wn2 at *
  clear hwn
  have cur := And.intro c0 c1
  clear c0 c1
  replace o0 := ops_ext o0 hE
  replace o1 := ops_ext o1 hE
  replace WW := WW.ext hE
  replace TB := TB.ext hE
  replace EE := EE.trans hE
  clear hE
  refine (M0.out _ o0).mono ?_
  rintro e wn ⟨u0, rfl, hown, hE⟩
  have A0 := isT_own hown
  obtain ⟨a0, m0, c0, rfl⟩ := A0.val
  clear hown o0 M0
  replace o1 := ops_ext o1 hE
  replace WW := WW.ext hE
  replace TB := TB.ext hE
  replace cur := two_later hE cur
  replace EE := EE.trans hE
  clear hE
  go_wp2_with fail
  refine (M1.out _ o1).mono ?_
  rintro e wn ⟨u1, rfl, hown, hE⟩
  have A1 := isT_own hown
  obtain ⟨a1, m1, c1, rfl⟩ := A1.val
  clear hown o1 M1
  replace WW := WW.ext hE
  replace A0 := A0.ext hE
  replace TB := TB.ext hE
  replace cur := two_later hE cur
  replace EE := EE.trans hE
  clear hE
  go_wp2_with fail
  go_region_held3 (fun w' => w'.cell? ⟨wB, 0, none⟩ = some (.slice axS Sm.length cxS) ∧ w'.cell? ⟨wB, 1, none⟩ = some (.slice axL Lp.length cxL))
    (first | exact cur | exact two_drew cur | exact two_alloc cur | exact two_drew (two_alloc cur) | exact two_drew (two_alloc (two_alloc cur)) | go_keep)
    (first
      | (go_at_call 21
         refine (joinD1 18 _ _ _ _ A0 (by first | omega | (simp only [Tm.size]; omega))).mono ?_
         rintro e wn ⟨vj, rfl, J1, hE⟩
         obtain ⟨ajJ1, mjJ1, cjJ1, rfl⟩ := J1.val
         replace WW := WW.ext hE
         replace A0 := A0.ext hE
         replace A1 := A1.ext hE
         replace TB := TB.ext hE
         replace cur := two_later hE cur
         replace EE := EE.trans hE
         clear hE)
      | (go_at_call 25
         refine (holds_b _ _ _ _ Sm Lp _ _ J1 TB (F0.out.one 18 18 3 (.inr ⟨by omega, by omega⟩) (by omega)) (by omega) (by omega) WW WOK.out E0.out).mono ?_
         rintro e wn ⟨rfl, hE⟩
         replace WW := WW.ext hE
         replace A0 := A0.ext hE
         replace A1 := A1.ext hE
         replace TB := TB.ext hE
         replace cur := two_later hE cur
         replace EE := EE.trans hE
         clear hE
         clear J1))
  go_wp2_with fail
  go_region_held3 (fun w' => w'.cell? ⟨wB, 0, none⟩ = some (.slice axS Sm.length cxS) ∧ w'.cell? ⟨wB, 1, none⟩ = some (.slice axL Lp.length cxL))
    (first | exact cur | exact two_drew cur | exact two_alloc cur | exact two_drew (two_alloc cur) | exact two_drew (two_alloc (two_alloc cur)) | go_keep)
    (first
      | (go_at_call 21
         have hq := J2
         clear hq
         refine (joinT1 10 _ _ _ _ J2 (by first | omega | (simp only [Tm.size]; omega))).mono ?_
         rintro e wn ⟨vj, rfl, J3, hE⟩
         obtain ⟨ajJ3, mjJ3, cjJ3, rfl⟩ := J3.val
         replace WW := WW.ext hE
         replace A0 := A0.ext hE
         replace A1 := A1.ext hE
         replace J1 := J1.ext hE
         replace J2 := J2.ext hE
         replace TB := TB.ext hE
         replace cur := two_later hE cur
         replace EE := EE.trans hE
         clear hE)
      | (go_at_call 21
         have hq := J1
         clear hq
         refine (joinT1 17 _ _ _ _ J1 (by first | omega | (simp only [Tm.size]; omega))).mono ?_
         rintro e wn ⟨vj, rfl, J2, hE⟩
         obtain ⟨ajJ2, mjJ2, cjJ2, rfl⟩ := J2.val
         replace WW := WW.ext hE
         replace A0 := A0.ext hE
         replace A1 := A1.ext hE
         replace J1 := J1.ext hE
         replace TB := TB.ext hE
         replace cur := two_later hE cur
         replace EE := EE.trans hE
         clear hE)
      | (go_at_call 21
         refine (joinD1 10 _ _ _ _ A0 (by first | omega | (simp only [Tm.size]; omega))).mono ?_
         rintro e wn ⟨vj, rfl, J1, hE⟩
         obtain ⟨ajJ1, mjJ1, cjJ1, rfl⟩ := J1.val
         replace WW := WW.ext hE
         replace A0 := A0.ext hE
         replace A1 := A1.ext hE
         replace TB := TB.ext hE
         replace cur := two_later hE cur
         replace EE := EE.trans hE
         clear hE)
      | (go_at_call 25
         refine (holds_b _ _ _ _ Sm Lp _ _ J3 TB (N2.out.one 10 20 3 (.inl ⟨rfl, by omega⟩) (by omega)) (by omega) (by omega) WW WOK.out E1.out).mono ?_
         rintro e wn ⟨rfl, hE⟩
         replace WW := WW.ext hE
         replace A0 := A0.ext hE
         replace A1 := A1.ext hE
         replace TB := TB.ext hE
         replace cur := two_later hE cur
         replace EE := EE.trans hE
         clear hE
         clear J1 J2 J3))
  go_wp2_with fail
  go_region_held3 (fun w' => w'.cell? ⟨wB, 0, none⟩ = some (.slice axS Sm.length cxS) ∧ w'.cell? ⟨wB, 1, none⟩ = some (.slice axL Lp.length cxL))
    (first | exact cur | exact two_drew cur | exact two_alloc cur | exact two_drew (two_alloc cur) | exact two_drew (two_alloc (two_alloc cur)) | go_keep)
    (first
      | (go_at_call 21
         refine (joinD2 16 _ _ _ _ _ _ A0 A1 (by first | omega | (simp only [Tm.size]; omega))).mono ?_
         rintro e wn ⟨vj, rfl, J1, hE⟩
         obtain ⟨ajJ1, mjJ1, cjJ1, rfl⟩ := J1.val
         replace WW := WW.ext hE
         replace A0 := A0.ext hE
         replace A1 := A1.ext hE
         replace TB := TB.ext hE
         replace cur := two_later hE cur
         replace EE := EE.trans hE
         clear hE)
      | (go_at_call 25
         refine (holds_b _ _ _ _ Sm Lp _ _ J1 TB (F0.out.two F1.out 16 35 5 (.inr ⟨by omega, by omega⟩) (by omega)) (by omega) (by omega) WW WOK.out E2.out).mono ?_
         rintro e wn ⟨rfl, hE⟩
         replace WW := WW.ext hE
         replace A0 := A0.ext hE
         replace A1 := A1.ext hE
         replace TB := TB.ext hE
         replace cur := two_later hE cur
         replace EE := EE.trans hE
         clear hE
         clear J1))
  go_wp2_with fail
  go_region_held3 (fun w' => w'.cell? ⟨wB, 0, none⟩ = some (.slice axS Sm.length cxS) ∧ w'.cell? ⟨wB, 1, none⟩ = some (.slice axL Lp.length cxL))
    (first | exact cur | exact two_drew cur | exact two_alloc cur | exact two_drew (two_alloc cur) | exact two_drew (two_alloc (two_alloc cur)) | go_keep)
    (first
      | (go_at_call 21
         have hq := J3
         clear hq
         refine (joinT1 10 _ _ _ _ J3 (by first | omega | (simp only [Tm.size]; omega))).mono ?_
         rintro e wn ⟨vj, rfl, J4, hE⟩
         obtain ⟨ajJ4, mjJ4, cjJ4, rfl⟩ := J4.val
         replace WW := WW.ext hE
         replace A0 := A0.ext hE
         replace A1 := A1.ext hE
         replace J1 := J1.ext hE
         replace J2 := J2.ext hE
         replace J3 := J3.ext hE
         replace TB := TB.ext hE
         replace cur := two_later hE cur
         replace EE := EE.trans hE
         clear hE)
      | (go_at_call 21
         have hq := J2
         clear hq
         refine (joinT2 15 _ _ _ _ _ _ J1 J2 (by first | omega | (simp only [Tm.size]; omega))).mono ?_
         rintro e wn ⟨vj, rfl, J3, hE⟩
         obtain ⟨ajJ3, mjJ3, cjJ3, rfl⟩ := J3.val
         replace WW := WW.ext hE
         replace A0 := A0.ext hE
         replace A1 := A1.ext hE
         replace J1 := J1.ext hE
         replace J2 := J2.ext hE
         replace TB := TB.ext hE
         replace cur := two_later hE cur
         replace EE := EE.trans hE
         clear hE)
      | (go_at_call 21
         have hq := J1
         clear hq
         with_reducible refine (joinS1 10 _ _ _ SB (by omega)).mono ?_
         rintro e wn ⟨vj, rfl, J2, hE⟩
         obtain ⟨ajJ2, mjJ2, cjJ2, rfl⟩ := J2.val
         clear SB
         replace WW := WW.ext hE
         replace A0 := A0.ext hE
         replace A1 := A1.ext hE
         replace J1 := J1.ext hE
         replace TB := TB.ext hE
         replace cur := two_later hE cur
         replace EE := EE.trans hE
         clear hE)
      | (go_at_call 21
         have hq := J1
         clear hq
         with_reducible refine (joinT1 10 _ _ _ _ A1 (by omega)).mono ?_
         rintro e wn ⟨vj, rfl, J2, hE⟩
         obtain ⟨ajJ2, mjJ2, cjJ2, rfl⟩ := J2.val
         replace WW := WW.ext hE
         replace A0 := A0.ext hE
         replace A1 := A1.ext hE
         replace J1 := J1.ext hE
         replace TB := TB.ext hE
         replace cur := two_later hE cur
         replace EE := EE.trans hE
         clear hE)
      | (go_at_call 21
         with_reducible refine (joinD1 10 _ _ _ _ A0 (by omega)).mono ?_
         rintro e wn ⟨vj, rfl, J1, hE⟩
         obtain ⟨ajJ1, mjJ1, cjJ1, rfl⟩ := J1.val
         replace WW := WW.ext hE
         replace A0 := A0.ext hE
         replace A1 := A1.ext hE
         replace TB := TB.ext hE
         replace cur := two_later hE cur
         replace EE := EE.trans hE
         clear hE)
      | (go_at_call 21
         obtain ⟨S0, SB, hX⟩ := two_args wn 23 _ _ _ _ A0 A1
         with_reducible refine (joinS1 10 _ _ _ S0 (by omega)).mono ?_
         rintro e wn ⟨vj, rfl, J1, hF⟩
         obtain ⟨ajJ1, mjJ1, cjJ1, rfl⟩ := J1.val
         replace SB := SB.ext hF
         have hE := hX.trans hF
         clear hX hF S0
         replace WW := WW.ext hE
         replace A0 := A0.ext hE
         replace A1 := A1.ext hE
         replace TB := TB.ext hE
         replace cur := two_later hE cur
         replace EE := EE.trans hE
         clear hE)
      | (go_at_call 21
         obtain ⟨SB, S0, hX⟩ := two_args wn 23 _ _ _ _ A1 A0
         with_reducible refine (joinS1 10 _ _ _ S0 (by omega)).mono ?_
         rintro e wn ⟨vj, rfl, J1, hF⟩
         obtain ⟨ajJ1, mjJ1, cjJ1, rfl⟩ := J1.val
         replace SB := SB.ext hF
         have hE := hX.trans hF
         clear hX hF S0
         replace WW := WW.ext hE
         replace A0 := A0.ext hE
         replace A1 := A1.ext hE
         replace TB := TB.ext hE
         replace cur := two_later hE cur
         replace EE := EE.trans hE
         clear hE)
      | (go_at_call 25
         refine (holds_b _ _ _ _ Sm Lp _ _ J4 TB (N3.out.one 10 38 5 (.inl ⟨rfl, by omega⟩) (by omega)) (by omega) (by omega) WW WOK.out E3.out).mono ?_
         rintro e wn ⟨rfl, hE⟩
         replace WW := WW.ext hE
         replace A0 := A0.ext hE
         replace A1 := A1.ext hE
         replace TB := TB.ext hE
         replace cur := two_later hE cur
         replace EE := EE.trans hE
         clear hE
         clear J1 J2 J3 J4))
  all_goals
    go_wp2_with fail
    go_region_held3 (fun w' => w'.cell? ⟨wB, 0, none⟩ = some (.slice axS Sm.length cxS) ∧ w'.cell? ⟨wB, 1, none⟩ = some (.slice axL Lp.length cxL))
      (first | exact cur | exact two_drew cur | exact two_alloc cur | exact two_drew (two_alloc cur) | exact two_drew (two_alloc (two_alloc cur)) | go_keep)
      (first
        | (go_at_call 21
           have hq := J1
           clear hq
           refine (joinT2 9 _ _ _ _ _ _ A0 J1 (by first | omega | (simp only [Tm.size]; omega))).mono ?_
           rintro e wn ⟨vj, rfl, J2, hE⟩
           obtain ⟨ajJ2, mjJ2, cjJ2, rfl⟩ := J2.val
           replace WW := WW.ext hE
           replace A0 := A0.ext hE
           replace A1 := A1.ext hE
           replace J1 := J1.ext hE
           replace TB := TB.ext hE
           replace cur := two_later hE cur
           replace EE := EE.trans hE
           clear hE)
        | (go_at_call 21
           refine (joinD1 10 _ _ _ _ A0 (by first | omega | (simp only [Tm.size]; omega))).mono ?_
           rintro e wn ⟨vj, rfl, J1, hE⟩
           obtain ⟨ajJ1, mjJ1, cjJ1, rfl⟩ := J1.val
           replace WW := WW.ext hE
           replace A0 := A0.ext hE
           replace A1 := A1.ext hE
           replace TB := TB.ext hE
           replace cur := two_later hE cur
           replace EE := EE.trans hE
           clear hE)
        | (go_at_call 25
           refine (holds_b _ _ _ _ Sm Lp _ _ J2 TB (F0.out.two N0.out 9 36 4 (.inl ⟨by omega, by omega⟩) (by omega)) (by omega) (by omega) WW WOK.out E4.out).mono ?_
           rintro e wn ⟨rfl, hE⟩
           replace WW := WW.ext hE
           replace A0 := A0.ext hE
           replace A1 := A1.ext hE
           replace TB := TB.ext hE
           replace cur := two_later hE cur
           replace EE := EE.trans hE
           clear hE
           clear J1 J2))
    clear E0 E1 E2 E3 E4 cur
    cases b0
    all_goals cases b1
    all_goals
      go_wp2
      go_ret
      exact ⟨rfl, EE⟩

end Go.Proofs.YtffjhhpikgodiaaDoor
