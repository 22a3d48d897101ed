/- The law WordNow. -/
import Derived.Test.YthkiegaifkkegaaDoorWordL
import Derived.Test.YthkiegaifkkegaaDoorNow20
import Derived.Deep.DeepCutAuto
namespace Go.Proofs.YthkiegaifkkegaaDoor
open Go.RowKit

set_option maxRecDepth 100000 in
set_option maxHeartbeats 16000000 in
theorem wordNow_law (v0 v1 : Value) (cs : Array Value) (W : World) (ht : Tab W) (h0 : Cells Tryd.prog W 22 [v0]) (h1 : Cells Tryd.prog W 22 [v1]) (hs : Cells Tryd.prog W 25 cs.toList) :
    Calls Tryd.prog 3 #[v0, v1, .agg cs] W fun e w' => e = .returned (.bool true) ∧ Ext W w' := by
  obtain ⟨raw0, o0, hraw0⟩ := raw_for h0
  obtain ⟨raw1, o1, hraw1⟩ := raw_for h1
  obtain ⟨aS, aL, cS, cL, S, L, rfl, hS, hL, iS, iL⟩ := spell_of hs
  have EE := ext_al (Ext.refl W) (Obj.cells #[.slice aS S.length cS, .slice aL L.length cL] 25)
  have TB := ht.ext EE
  have HWA := Lib.hid (word_any _ _ S L _ (hS.ext EE) (hL.ext EE) iS iL)
  have WOK := Lib.hid (word_ok S L)
  replace o0 := ops_ext o0 EE
  have M0 := Lib.hid (show ∀ w, Ops w v0 raw0 → Calls Tryd.prog 7 #[v0, .int .i64 3, .int .i64 2] w (fun e w' => ∃ v', e = .returned v' ∧ w'.ownsRow w.heap.size 41 2 v' (forO raw0 3 2).flat.length ((forO raw0 3 2).flat.flatMap opc) ∧ Ext w w') from fun w h => mkFormula v0 raw0 3 2 w h hraw0 (by omega) (by omega) (by omega))
  have F0 := Lib.hid (fm_for raw0 2)
  generalize forO raw0 3 2 = t0 at *
  have hs0 := F0.out.size
  replace o1 := ops_ext o1 EE
  have M1 := Lib.hid (show ∀ w, Ops w v1 raw1 → Calls Tryd.prog 7 #[v1, .int .i64 3, .int .i64 2] w (fun e w' => ∃ v', e = .returned v' ∧ w'.ownsRow w.heap.size 41 2 v' (forO raw1 3 2).flat.length ((forO raw1 3 2).flat.flatMap opc) ∧ Ext w w') from fun w h => mkFormula v1 raw1 3 2 w h hraw1 (by omega) (by omega) (by omega))
  have F1 := Lib.hid (fm_for raw1 2)
  generalize forO raw1 3 2 = t1 at *
  have hs1 := F1.out.size
  have hSl : S.length = S.length := rfl
  generalize letsL S = Sm at *
  generalize loopW L = Lp at *
  obtain ⟨n, hn⟩ : ∃ n, (Sm ++ Lp).length = n := ⟨_, rfl⟩
  have hsum : (Sm.length : Int) + (Lp.length : Int) = (n : Int) := by rw [← hn, List.length_append]; push_cast; rfl
  have hbk : Sm.length < n := by have := WOK.out.l1; rw [← hn, List.length_append]; omega
  have hn24 : n ≤ 24 := by have := WOK.out.s12; have := WOK.out.l12; rw [← hn, List.length_append]; omega
  have HN := Lib.hid hn
  clear hn
  have HU := Lib.hid fun i => now_unt ⟨Sm ++ Lp, Sm.length⟩ 0 t0 t1 i
  have HR := Lib.hid fun i => now_rel ⟨Sm ++ Lp, Sm.length⟩ 0 t0 t1 i
  have HO := Lib.hid fun i => now_fin ⟨Sm ++ Lp, Sm.length⟩ 0 t0 i
  have HG := Lib.hid fun i => now_glo ⟨Sm ++ Lp, Sm.length⟩ 0 t0 i
  have HT := Lib.hid fun i => satB_next ⟨Sm ++ Lp, Sm.length⟩ 0 t0 i
  have HWn := Lib.hid (show (Wd.mk (Sm ++ Lp) Sm.length).n = n from HN.out)
  clear ht hs hS hL iS iL hSl h0 hraw0 h1 hraw1
  go_enter Tryd.func3, Tryd.ntmps3
  go_wp2_with fail
  generalize W.alloc (Obj.cells #[.slice aS S.length cS, .slice aL L.length cL] 25) = w0 at *
  refine HWA.out.mono ?_
  rintro e wn ⟨sv, lv, rfl, WW, hE⟩
  clear HWA
  replace o0 := ops_ext o0 hE
  replace o1 := ops_ext o1 hE
  replace TB := TB.ext hE
  replace EE := EE.trans hE
  clear hE
  obtain ⟨xsS, xeS, axS, cxS, rfl, xrS⟩ := WW.st
  obtain ⟨xsL, xeL, axL, cxL, rfl, xrL⟩ := WW.lp
  clear xeS xrS xeL xrL
  go_wp2_with fail
  have hE := ext_al (Ext.refl wn) (Obj.cells #[.slice axS Sm.length cxS, .slice axL Lp.length cxL] 28)
  have hbk := blk_new wn (Obj.cells #[.slice axS Sm.length cxS, .slice axL Lp.length cxL] 28)
  have c0 := blk_cell hbk (i := 0) (v := .slice axS Sm.length cxS) rfl
  have c1 := blk_cell hbk (i := 1) (v := .slice axL Lp.length cxL) rfl
  clear hbk
  generalize hwB : wn.heap.size = wB at *
  clear hwB
  generalize hwn : wn.alloc (Obj.cells #[.slice axS Sm.length cxS, .slice axL Lp.length cxL] 28) = wn2 at *
  clear hwn
  have cur := And.intro c0 c1
  clear c0 c1
  replace o0 := ops_ext o0 hE
  replace o1 := ops_ext o1 hE
  replace WW := WW.ext hE
  replace TB := TB.ext hE
  replace EE := EE.trans hE
  clear hE
  refine (M0.out _ o0).mono ?_
  rintro e wn ⟨u0, rfl, hown, hE⟩
  have A0 := isT_own hown
  obtain ⟨a0, m0, c0, rfl⟩ := A0.val
  clear hown o0 M0
  replace o1 := ops_ext o1 hE
  replace WW := WW.ext hE
  replace TB := TB.ext hE
  replace cur := two_later hE cur
  replace EE := EE.trans hE
  clear hE
  go_wp2_with fail
  refine (M1.out _ o1).mono ?_
  rintro e wn ⟨u1, rfl, hown, hE⟩
  have A1 := isT_own hown
  obtain ⟨a1, m1, c1, rfl⟩ := A1.val
  clear hown o1 M1
  replace WW := WW.ext hE
  replace A0 := A0.ext hE
  replace TB := TB.ext hE
  replace cur := two_later hE cur
  replace EE := EE.trans hE
  clear hE
  have q0 := cur.1
  have q1 := cur.2
  go_wp2_with fail
  clear q0 q1
  clear hsum
  refine (moments_any _ _ _ _ Sm Lp 3 _ A0 TB ((F0.out).isF (by omega) (by omega)) WW WOK.out n HN.out).mono ?_
  rintro e wn ⟨R, rfl, Ra, hE⟩
  replace WW := WW.ext hE
  replace A0 := A0.ext hE
  replace A1 := A1.ext hE
  replace TB := TB.ext hE
  replace cur := two_later hE cur
  replace EE := EE.trans hE
  clear hE
  obtain ⟨Ba, rfl⟩ : ∃ z, z = R := ⟨_, rfl⟩
  have q0 := cur.1
  have q1 := cur.2
  go_wp2_with fail
  clear q0 q1
  refine (moments_any _ _ _ _ Sm Lp 3 _ A1 TB ((F1.out).isF (by omega) (by omega)) WW WOK.out n HN.out).mono ?_
  rintro e wn ⟨R, rfl, Rb, hE⟩
  replace WW := WW.ext hE
  replace A0 := A0.ext hE
  replace A1 := A1.ext hE
  replace Ra := own_ext Ra hE
  replace TB := TB.ext hE
  replace cur := two_later hE cur
  replace EE := EE.trans hE
  clear hE
  obtain ⟨Bb, rfl⟩ : ∃ z, z = R := ⟨_, rfl⟩
  go_wp2_with fail
  go_region_held3 (fun w' => w'.cell? ⟨wB, 0, none⟩ = some (.slice axS Sm.length cxS) ∧ w'.cell? ⟨wB, 1, none⟩ = some (.slice axL Lp.length cxL))
    (first | exact cur | exact two_drew cur | exact two_alloc cur | exact two_drew (two_alloc cur) | exact two_drew (two_alloc (two_alloc cur)) | go_keep)
    (first
      | (go_at_call 9
         refine (joinD2 15 _ _ _ _ _ _ A0 A1 (by first | omega | (simp only [Tm.size]; omega))).mono ?_
         rintro e wn ⟨vj, rfl, J1, hE⟩
         obtain ⟨ajJ1, mjJ1, cjJ1, rfl⟩ := J1.val
         replace WW := WW.ext hE
         replace A0 := A0.ext hE
         replace A1 := A1.ext hE
         replace Ra := own_ext Ra hE
         replace Rb := own_ext Rb hE
         replace TB := TB.ext hE
         replace cur := two_later hE cur
         replace EE := EE.trans hE
         clear hE)
      | (go_at_call 8
         refine (moments_any _ _ _ _ Sm Lp 3 _ J1 TB ((F0.out.two F1.out 15 35 5 (.inr ⟨by omega, by omega⟩) (by omega)).isF (by omega) (by omega)) WW WOK.out n HN.out).mono ?_
         rintro e wn ⟨R, rfl, Ru, hE⟩
         replace WW := WW.ext hE
         replace A0 := A0.ext hE
         replace A1 := A1.ext hE
         replace Ra := own_ext Ra hE
         replace Rb := own_ext Rb hE
         replace TB := TB.ext hE
         replace cur := two_later hE cur
         replace EE := EE.trans hE
         clear hE
         obtain ⟨Bu, rfl⟩ : ∃ z, z = R := ⟨_, rfl⟩
         clear J1))
  go_wp2_with fail
  go_region_held3 (fun w' => w'.cell? ⟨wB, 0, none⟩ = some (.slice axS Sm.length cxS) ∧ w'.cell? ⟨wB, 1, none⟩ = some (.slice axL Lp.length cxL))
    (first | exact cur | exact two_drew cur | exact two_alloc cur | exact two_drew (two_alloc cur) | exact two_drew (two_alloc (two_alloc cur)) | go_keep)
    (first
      | (go_at_call 9
         refine (joinD2 16 _ _ _ _ _ _ A0 A1 (by first | omega | (simp only [Tm.size]; omega))).mono ?_
         rintro e wn ⟨vj, rfl, J1, hE⟩
         obtain ⟨ajJ1, mjJ1, cjJ1, rfl⟩ := J1.val
         replace WW := WW.ext hE
         replace A0 := A0.ext hE
         replace A1 := A1.ext hE
         replace Ra := own_ext Ra hE
         replace Rb := own_ext Rb hE
         replace Ru := own_ext Ru hE
         replace TB := TB.ext hE
         replace cur := two_later hE cur
         replace EE := EE.trans hE
         clear hE)
      | (go_at_call 8
         refine (moments_any _ _ _ _ Sm Lp 3 _ J1 TB ((F0.out.two F1.out 16 35 5 (.inr ⟨by omega, by omega⟩) (by omega)).isF (by omega) (by omega)) WW WOK.out n HN.out).mono ?_
         rintro e wn ⟨R, rfl, Rr, hE⟩
         replace WW := WW.ext hE
         replace A0 := A0.ext hE
         replace A1 := A1.ext hE
         replace Ra := own_ext Ra hE
         replace Rb := own_ext Rb hE
         replace Ru := own_ext Ru hE
         replace TB := TB.ext hE
         replace cur := two_later hE cur
         replace EE := EE.trans hE
         clear hE
         obtain ⟨Br, rfl⟩ : ∃ z, z = R := ⟨_, rfl⟩
         clear J1))
  go_wp2_with fail
  go_region_held3 (fun w' => w'.cell? ⟨wB, 0, none⟩ = some (.slice axS Sm.length cxS) ∧ w'.cell? ⟨wB, 1, none⟩ = some (.slice axL Lp.length cxL))
    (first | exact cur | exact two_drew cur | exact two_alloc cur | exact two_drew (two_alloc cur) | exact two_drew (two_alloc (two_alloc cur)) | go_keep)
    (first
      | (go_at_call 9
         refine (joinD1 17 _ _ _ _ A0 (by first | omega | (simp only [Tm.size]; omega))).mono ?_
         rintro e wn ⟨vj, rfl, J1, hE⟩
         obtain ⟨ajJ1, mjJ1, cjJ1, rfl⟩ := J1.val
         replace WW := WW.ext hE
         replace A0 := A0.ext hE
         replace A1 := A1.ext hE
         replace Ra := own_ext Ra hE
         replace Rb := own_ext Rb hE
         replace Ru := own_ext Ru hE
         replace Rr := own_ext Rr hE
         replace TB := TB.ext hE
         replace cur := two_later hE cur
         replace EE := EE.trans hE
         clear hE)
      | (go_at_call 8
         refine (moments_any _ _ _ _ Sm Lp 3 _ J1 TB ((F0.out.one 17 18 3 (.inr ⟨by omega, by omega⟩) (by omega)).isF (by omega) (by omega)) WW WOK.out n HN.out).mono ?_
         rintro e wn ⟨R, rfl, Ro, hE⟩
         replace WW := WW.ext hE
         replace A0 := A0.ext hE
         replace A1 := A1.ext hE
         replace Ra := own_ext Ra hE
         replace Rb := own_ext Rb hE
         replace Ru := own_ext Ru hE
         replace Rr := own_ext Rr hE
         replace TB := TB.ext hE
         replace cur := two_later hE cur
         replace EE := EE.trans hE
         clear hE
         obtain ⟨Bo, rfl⟩ : ∃ z, z = R := ⟨_, rfl⟩
         clear J1))
  go_wp2_with fail
  go_region_held3 (fun w' => w'.cell? ⟨wB, 0, none⟩ = some (.slice axS Sm.length cxS) ∧ w'.cell? ⟨wB, 1, none⟩ = some (.slice axL Lp.length cxL))
    (first | exact cur | exact two_drew cur | exact two_alloc cur | exact two_drew (two_alloc cur) | exact two_drew (two_alloc (two_alloc cur)) | go_keep)
    (first
      | (go_at_call 9
         refine (joinD1 18 _ _ _ _ A0 (by first | omega | (simp only [Tm.size]; omega))).mono ?_
         rintro e wn ⟨vj, rfl, J1, hE⟩
         obtain ⟨ajJ1, mjJ1, cjJ1, rfl⟩ := J1.val
         replace WW := WW.ext hE
         replace A0 := A0.ext hE
         replace A1 := A1.ext hE
         replace Ra := own_ext Ra hE
         replace Rb := own_ext Rb hE
         replace Ru := own_ext Ru hE
         replace Rr := own_ext Rr hE
         replace Ro := own_ext Ro hE
         replace TB := TB.ext hE
         replace cur := two_later hE cur
         replace EE := EE.trans hE
         clear hE)
      | (go_at_call 8
         refine (moments_any _ _ _ _ Sm Lp 3 _ J1 TB ((F0.out.one 18 18 3 (.inr ⟨by omega, by omega⟩) (by omega)).isF (by omega) (by omega)) WW WOK.out n HN.out).mono ?_
         rintro e wn ⟨R, rfl, Rl, hE⟩
         replace WW := WW.ext hE
         replace A0 := A0.ext hE
         replace A1 := A1.ext hE
         replace Ra := own_ext Ra hE
         replace Rb := own_ext Rb hE
         replace Ru := own_ext Ru hE
         replace Rr := own_ext Rr hE
         replace Ro := own_ext Ro hE
         replace TB := TB.ext hE
         replace cur := two_later hE cur
         replace EE := EE.trans hE
         clear hE
         obtain ⟨Bl, rfl⟩ : ∃ z, z = R := ⟨_, rfl⟩
         clear J1))
  go_wp2_with fail
  go_region_held3 (fun w' => w'.cell? ⟨wB, 0, none⟩ = some (.slice axS Sm.length cxS) ∧ w'.cell? ⟨wB, 1, none⟩ = some (.slice axL Lp.length cxL))
    (first | exact cur | exact two_drew cur | exact two_alloc cur | exact two_drew (two_alloc cur) | exact two_drew (two_alloc (two_alloc cur)) | go_keep)
    (first
      | (go_at_call 9
         refine (joinD1 14 _ _ _ _ A0 (by first | omega | (simp only [Tm.size]; omega))).mono ?_
         rintro e wn ⟨vj, rfl, J1, hE⟩
         obtain ⟨ajJ1, mjJ1, cjJ1, rfl⟩ := J1.val
         replace WW := WW.ext hE
         replace A0 := A0.ext hE
         replace A1 := A1.ext hE
         replace Ra := own_ext Ra hE
         replace Rb := own_ext Rb hE
         replace Ru := own_ext Ru hE
         replace Rr := own_ext Rr hE
         replace Ro := own_ext Ro hE
         replace Rl := own_ext Rl hE
         replace TB := TB.ext hE
         replace cur := two_later hE cur
         replace EE := EE.trans hE
         clear hE)
      | (go_at_call 8
         refine (moments_any _ _ _ _ Sm Lp 3 _ J1 TB ((F0.out.one 14 18 3 (.inr ⟨by omega, by omega⟩) (by omega)).isF (by omega) (by omega)) WW WOK.out n HN.out).mono ?_
         rintro e wn ⟨R, rfl, Rt, hE⟩
         replace WW := WW.ext hE
         replace A0 := A0.ext hE
         replace A1 := A1.ext hE
         replace Ra := own_ext Ra hE
         replace Rb := own_ext Rb hE
         replace Ru := own_ext Ru hE
         replace Rr := own_ext Rr hE
         replace Ro := own_ext Ro hE
         replace Rl := own_ext Rl hE
         replace TB := TB.ext hE
         replace cur := two_later hE cur
         replace EE := EE.trans hE
         clear hE
         obtain ⟨Bt, rfl⟩ : ∃ z, z = R := ⟨_, rfl⟩
         clear J1))
  have HRa := Lib.hid Ra
  have HRb := Lib.hid Rb
  have HRu := Lib.hid Ru
  have HRo := Lib.hid Ro
  have HRr := Lib.hid Rr
  have HRl := Lib.hid Rl
  have HRt := Lib.hid Rt
  have HEE := Lib.hid EE
  have HCU := Lib.hid cur
  clear EE cur TB WW A0 A1 Ra Rb Ru Ro Rr Rl Rt
  go_wp2_with fail
  obtain ⟨wL, rfl⟩ : ∃ wL, wL = wn := ⟨_, rfl⟩
  go_loopg [25] n (fun m x wr => ∃ i q : Nat, m + i = n ∧ x = .int .i64 (i : Int) ∧ wr = wL.drewN q)
  case atStart => exact ⟨0, 0, by omega, by go_num, rfl⟩
  case round =>
    obtain ⟨i, q, hmi, rfl, rfl⟩ := hrel
    have HMI := Lib.hid hmi
    by_cases hi : i < n
    · obtain ⟨k, hk⟩ : ∃ k, nxt n Sm.length i = k := ⟨_, rfl⟩
      have hkn : k < n := by rw [← hk]; exact nxt_lt hbk
      have hu := HU.out i
      have hr := HR.out i
      have ho := HO.out i
      have hg := HG.out i
      have ht := HT.out i
      rw [HWn.out] at hu hr ho hg ht
      simp only [hk] at hu hr ho hg ht
      have hk2 : (i + 1 < n ∧ k = i + 1) ∨ (i + 1 = n ∧ k = Sm.length) := by
        rw [← hk]; unfold nxt; split <;> omega
      have ca := rowF_cell HRa.out hi
      have ca2 := rowF_cell HRa.out hkn
      have cb := rowF_cell HRb.out hi
      have cu := rowF_cell HRu.out hi
      have cu2 := rowF_cell HRu.out hkn
      have cr := rowF_cell HRr.out hi
      have cr2 := rowF_cell HRr.out hkn
      have co := rowF_cell HRo.out hi
      have co2 := rowF_cell HRo.out hkn
      have cl := rowF_cell HRl.out hi
      have cl2 := rowF_cell HRl.out hkn
      have ct := rowF_cell HRt.out hi
      rw [hu] at cu
      rw [hr] at cr
      rw [ho] at co
      rw [hg] at cl
      rw [ht] at ct
      have c0 := HCU.out.1
      clear hu hr ho hg ht hk hmi
      generalize satB ⟨Sm ++ Lp, Sm.length⟩ t0 i = xa at *
      generalize satB ⟨Sm ++ Lp, Sm.length⟩ t1 i = xb at *
      generalize satB ⟨Sm ++ Lp, Sm.length⟩ t0 k = xa2 at *
      generalize satB ⟨Sm ++ Lp, Sm.length⟩ (.n2 15 0 t0 t1) k = xu at *
      generalize satB ⟨Sm ++ Lp, Sm.length⟩ (.n2 16 0 t0 t1) k = xr at *
      generalize satB ⟨Sm ++ Lp, Sm.length⟩ (.n1 17 0 t0) k = xo at *
      generalize satB ⟨Sm ++ Lp, Sm.length⟩ (.n1 18 0 t0) k = xl at *
      have hiI : (i : Int) < (n : Int) := by omega
      have hi0 : (0 : Int) ≤ (i : Int) := by omega
      have hi10 : (0 : Int) ≤ (i : Int) + 1 := by omega
      have hkI : (k : Int) < (n : Int) := by omega
      have hk0 : (0 : Int) ≤ (k : Int) := by omega
      have HK2 := Lib.hid hk2
      clear hk2
      go_upto_if 141 with fail
      go_cut [26] (fun s26 wx => s26 = .int .i64 (k : Int) ∧ wx = wL.drewN q)
      case first =>
        rcases HK2.out with ⟨h1, rfl⟩ | ⟨h1, rfl⟩
        · have h1I : ((i : Int) + 1 == (n : Int)) = false := by rw [beq_eq_false_iff_ne]; omega
          go_wp2_with fail
          go_meet
          exact ⟨by go_num, rfl⟩
        · have h1I : ((i : Int) + 1 == (n : Int)) = true := by rw [beq_iff_eq]; omega
          go_wp2_with fail
          go_meet
          exact ⟨rfl, rfl⟩
      case rest =>
        obtain ⟨rfl, rfl⟩ := hcut
        clear HK2
        go_upto_region 20 with fail
        go_cut [233] (fun sv wx => sv = .bool false ∧ ∃ q2, wx = wL.drewN q2)
        case first =>
          refine now20 (xa := xa) (xb := xb) (xu := xu) (xr := xr) (xo := xo) (xl := xl) (xa2 := xa2) ?_ (((((((((((Kn.start rfl).add (t := 26) rfl).add (t := 25) rfl).add (t := 23) rfl).add (t := 21) rfl).add (t := 19) rfl).add (t := 17) rfl).add (t := 15) rfl).add (t := 13) rfl).add (t := 11) rfl)) hiI hi0 hkI hk0 (by simpa using ca) (by simpa using cb) (by simpa using cu) (by simpa using cr) (by simpa using co) (by simpa using cl) (by simpa using ct) (by simpa using cu2) (by simpa using cr2) (by simpa using co2) (by simpa using cl2) (by simpa using ca2) ?_
          · rfl
          intro f q2 h88
          simp only [List.append, allL]
          go_simp
          go_wp2_with fail
          go_meet
          exact ⟨rfl, _, rfl⟩
        case rest =>
          obtain ⟨rfl, q2, rfl⟩ := hcut
          cases xa
          all_goals cases xb
          all_goals
            go_wp2_with fail
            all_goals
              go_roundg (gk - 1)
              case measure => have := HMI.out; omega
              case rel => exact ⟨i + 1, _, by have := HMI.out; omega, by go_num, rfl⟩
    · have hiI : ¬ (i : Int) < (n : Int) := by omega
      clear hmi
      go_wp2
      go_ret
      exact ⟨rfl, below_drewN HEE.out _⟩


end Go.Proofs.YthkiegaifkkegaaDoor
