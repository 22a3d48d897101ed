/- The law TopDuals. -/
import Derived.Test.YtbmimdnpchldlaaGreatDoorKt15
namespace Go.Proofs.YtbmimdnpchldlaaGreatDoor
open Go.RowKit

set_option maxRecDepth 100000 in
set_option maxHeartbeats 16000000 in
theorem topDuals_law (cs : Array Value) (v1 : Value) (v2 : Value) (W : World) (ht : Tab W) (h0 : Cells Tryz.prog W 25 cs.toList) (h1 : Cells Tryz.prog W 26 [v1]) (h2 : Cells Tryz.prog W 26 [v2]) :
    Calls Tryz.prog 10 #[.agg cs, v1, v2] W fun e w' => e = .returned (.bool true) ∧ Ext W w' := by
  obtain ⟨d, pv, rfl, hpl, hd⟩ := design_of h0
  obtain ⟨raw0, o0, hraw0⟩ := raw_for h1
  obtain ⟨raw1, o1, hraw1⟩ := raw_for h2
  have EE := ext_al (Ext.refl W) (Obj.cells (dnc d pv) 25)
  have HB := blk_new W (Obj.cells (dnc d pv) 25)
  have HH := Lib.hid fun (fv : Value) (t : Tm) (wx : World) (b : Bool) (hx : Ext (W.alloc (Obj.cells (dnc d pv) 25)) wx) (hf : IsT wx fv t) (a c : Nat) (hF : Fm t a c) (ha : a ≤ 60) (hc : c ≤ 6) (hb : holdsB d.md propT t = b) => tholds_b pv fv d t wx ((ht.ext EE).ext hx) ((hpl.ext EE).ext hx) hd hf hF ha hc b hb
  have hPre := d.drawn.ok.toPre
  replace o0 := ops_ext o0 EE
  have M0 := Lib.hid (show ∀ w, Ops w v1 raw0 → Calls Tryz.prog 34 #[v1, .int .i64 3, .int .i64 2] w (fun e w' => ∃ v', e = .returned v' ∧ w'.ownsRow w.heap.size 75 2 v' (forO raw0 3 2).flat.length ((forO raw0 3 2).flat.flatMap opc) ∧ Ext w w') from fun w h => mkFormula v1 raw0 3 2 w h hraw0 (by omega) (by omega) (by omega))
  have F0 := Lib.hid (fm_for raw0 2)
  generalize forO raw0 3 2 = t0 at *
  have hs0 := F0.out.size
  replace o1 := ops_ext o1 EE
  have M1 := Lib.hid (show ∀ w, Ops w v2 raw1 → Calls Tryz.prog 34 #[v2, .int .i64 3, .int .i64 2] w (fun e w' => ∃ v', e = .returned v' ∧ w'.ownsRow w.heap.size 75 2 v' (forO raw1 3 2).flat.length ((forO raw1 3 2).flat.flatMap opc) ∧ Ext w w') from fun w h => mkFormula v2 raw1 3 2 w h hraw1 (by omega) (by omega) (by omega))
  have F1 := Lib.hid (fm_for raw1 2)
  generalize forO raw1 3 2 = t1 at *
  have hs1 := F1.out.size
  obtain ⟨ar0, cr0, rfl, _⟩ := id o0
  obtain ⟨ar1, cr1, rfl, _⟩ := id o1
  have E11 := Lib.hid (holdsB_yes d.md propT 0)
  obtain ⟨b0, hb0⟩ : ∃ b, holdsB d.md propT (.n1 18 0 t0) = b := ⟨_, rfl⟩
  have E0 := Lib.hid hb0
  obtain ⟨b1, hb1⟩ : ∃ b, holdsB d.md propT (.n1 10 0 (.n1 17 0 (.n1 10 0 t0))) = b := ⟨_, rfl⟩
  have E1 := Lib.hid hb1
  obtain ⟨b2, hb2⟩ : ∃ b, holdsB d.md propT (.n2 16 0 t0 t1) = b := ⟨_, rfl⟩
  have E2 := Lib.hid hb2
  obtain ⟨b3, hb3⟩ : ∃ b, holdsB d.md propT (.n1 10 0 (.n2 15 0 (.n1 10 0 t0) (.n1 10 0 t1))) = b := ⟨_, rfl⟩
  have E3 := Lib.hid hb3
  obtain ⟨b4, hb4⟩ : ∃ b, holdsB d.md propT (.n1 17 0 t0) = b := ⟨_, rfl⟩
  have E4 := Lib.hid hb4
  obtain ⟨b5, hb5⟩ : ∃ b, holdsB d.md propT (.n2 15 0 (.n0 11 0) t0) = b := ⟨_, rfl⟩
  have E5 := Lib.hid hb5
  have r1 : b1 = b0 := by rw [← hb0, ← hb1]; exact holdsB_congr fun W => dual_glo _ _ _ _ _ _ _
  have r2 : b3 = b2 := by rw [← hb2, ← hb3]; exact holdsB_congr fun W => dual_rel _ _ _ _ _ _ _ _ _
  have r3 : b5 = b4 := by rw [← hb4, ← hb5]; exact holdsB_congr fun W => ever_unt W t0 0 0 0 0
  subst r1; subst r2; subst r3
  clear hb0 hb1 hb2 hb3 hb4 hb5
  simp only [dnc] at HH EE HB o0 o1 ⊢
  generalize d.md = md at *
  have cur := d7_of HB
  clear ht hpl hd HB hPre h0 h1 hraw0 h2 hraw1
  go_enter Tryz.func10, Tryz.ntmps10
  go_wp2_with fail
  obtain ⟨dB, hdB⟩ : ∃ x, W.heap.size = x := ⟨_, rfl⟩
  rw [hdB] at cur ⊢
  obtain ⟨w0, hw0⟩ : ∃ x, W.alloc (Obj.cells #[.int .i64 d.s0, .int .i64 d.s1, .int .i64 d.l0, .int .i64 d.l1, .int .i64 d.i0, .int .i64 d.i1, pv] 25) = x := ⟨_, rfl⟩
  rw [hw0] at HH EE cur ⊢
  rw [hw0] at o0
  rw [hw0] at o1
  have HZ := Lib.hid (show dB + 1 = w0.heap.size from by rw [← hw0, ← hdB]; simp)
  clear hw0 hdB
  have EX := Ext.refl w0
  have hE := Ext.refl w0
  clear hE
  refine (M0.out _ o0).mono ?_
  rintro e wn ⟨u0, rfl, hown, hE⟩
  have A0 := isT_own hown
  obtain ⟨a0, m0, c0, rfl⟩ := A0.val
  clear hown o0 M0
  replace o1 := ops_ext o1 hE
  replace cur := d7_later hE cur
  replace EX := EX.trans hE
  clear hE
  go_wp2_with fail
  refine (M1.out _ o1).mono ?_
  rintro e wn ⟨u1, rfl, hown, hE⟩
  have A1 := isT_own hown
  obtain ⟨a1, m1, c1, rfl⟩ := A1.val
  clear hown o1 M1
  replace A0 := A0.ext hE
  replace cur := d7_later hE cur
  replace EX := EX.trans hE
  clear hE
  go_wp2_with fail
  go_region_held3 (fun w' => w'.cell? ⟨dB, 0, none⟩ = some (.int .i64 d.s0) ∧ w'.cell? ⟨dB, 1, none⟩ = some (.int .i64 d.s1) ∧ w'.cell? ⟨dB, 2, none⟩ = some (.int .i64 d.l0) ∧ w'.cell? ⟨dB, 3, none⟩ = some (.int .i64 d.l1) ∧ w'.cell? ⟨dB, 4, none⟩ = some (.int .i64 d.i0) ∧ w'.cell? ⟨dB, 5, none⟩ = some (.int .i64 d.i1) ∧ w'.cell? ⟨dB, 6, none⟩ = some (pv))
    (first | exact cur | exact d7_drew cur | exact d7_alloc cur | exact d7_drew (d7_alloc cur) | exact d7_drew (d7_alloc (d7_alloc cur)) | exact d7_alloc (d7_alloc cur) | go_keep)
    (first
      | (go_at_call 27
         refine (kD1 18 _ _ _ _ A0 (by first | omega | (simp only [Tm.size]; omega))).mono ?_
         rintro e wn ⟨vj, rfl, J1, hE⟩
         obtain ⟨ajJ1, mjJ1, cjJ1, rfl⟩ := J1.val
         replace A0 := A0.ext hE
         replace A1 := A1.ext hE
         replace cur := d7_later hE cur
         replace EX := EX.trans hE
         clear hE)
      | (go_at_call 26
         refine (HH.out _ _ _ _ (by first | exact EX | exact EX.trans (Below.drew (Ext.refl _))) (by first | exact J1 | exact J1.ext (Below.drew (Ext.refl _))) _ _ (((F0.out).one 18 18 3 (.inr ⟨by omega, by omega⟩) (by omega))) (by omega) (by omega) E0.out).mono ?_
         rintro e wn ⟨rfl, hE⟩
         have hE := (show Ext _ wn by first | exact hE | exact Ext.trans (Below.drew (Ext.refl _)) hE)
         replace A0 := A0.ext hE
         replace A1 := A1.ext hE
         replace cur := d7_later hE cur
         replace EX := EX.trans hE
         clear hE
         clear J1))
  go_wp2_with fail
  go_region_held3 (fun w' => w'.cell? ⟨dB, 0, none⟩ = some (.int .i64 d.s0) ∧ w'.cell? ⟨dB, 1, none⟩ = some (.int .i64 d.s1) ∧ w'.cell? ⟨dB, 2, none⟩ = some (.int .i64 d.l0) ∧ w'.cell? ⟨dB, 3, none⟩ = some (.int .i64 d.l1) ∧ w'.cell? ⟨dB, 4, none⟩ = some (.int .i64 d.i0) ∧ w'.cell? ⟨dB, 5, none⟩ = some (.int .i64 d.i1) ∧ w'.cell? ⟨dB, 6, none⟩ = some (pv))
    (first | exact cur | exact d7_drew cur | exact d7_alloc cur | exact d7_drew (d7_alloc cur) | exact d7_drew (d7_alloc (d7_alloc cur)) | exact d7_alloc (d7_alloc cur) | go_keep)
    (first
      | (go_at_call 27
         have hq := J2
         clear hq
         refine (kT1 10 _ _ _ _ J2 (by first | omega | (simp only [Tm.size]; omega))).mono ?_
         rintro e wn ⟨vj, rfl, J3, hE⟩
         obtain ⟨ajJ3, mjJ3, cjJ3, rfl⟩ := J3.val
         replace A0 := A0.ext hE
         replace A1 := A1.ext hE
         replace J1 := J1.ext hE
         replace J2 := J2.ext hE
         replace cur := d7_later hE cur
         replace EX := EX.trans hE
         clear hE)
      | (go_at_call 27
         have hq := J1
         clear hq
         refine (kT1 17 _ _ _ _ J1 (by first | omega | (simp only [Tm.size]; omega))).mono ?_
         rintro e wn ⟨vj, rfl, J2, hE⟩
         obtain ⟨ajJ2, mjJ2, cjJ2, rfl⟩ := J2.val
         replace A0 := A0.ext hE
         replace A1 := A1.ext hE
         replace J1 := J1.ext hE
         replace cur := d7_later hE cur
         replace EX := EX.trans hE
         clear hE)
      | (go_at_call 27
         refine (kD1 10 _ _ _ _ A0 (by first | omega | (simp only [Tm.size]; omega))).mono ?_
         rintro e wn ⟨vj, rfl, J1, hE⟩
         obtain ⟨ajJ1, mjJ1, cjJ1, rfl⟩ := J1.val
         replace A0 := A0.ext hE
         replace A1 := A1.ext hE
         replace cur := d7_later hE cur
         replace EX := EX.trans hE
         clear hE)
      | (go_at_call 26
         refine (HH.out _ _ _ _ (by first | exact EX | exact EX.trans (Below.drew (Ext.refl _))) (by first | exact J3 | exact J3.ext (Below.drew (Ext.refl _))) _ _ (((((((F0.out).one 10 18 2 (.inl ⟨rfl, by omega⟩) (by omega))).one 17 19 3 (.inr ⟨by omega, by omega⟩) (by omega))).one 10 20 3 (.inl ⟨rfl, by omega⟩) (by omega))) (by omega) (by omega) E1.out).mono ?_
         rintro e wn ⟨rfl, hE⟩
         have hE := (show Ext _ wn by first | exact hE | exact Ext.trans (Below.drew (Ext.refl _)) hE)
         replace A0 := A0.ext hE
         replace A1 := A1.ext hE
         replace cur := d7_later hE cur
         replace EX := EX.trans hE
         clear hE
         clear J1 J2 J3))
  go_wp2_with fail
  go_region_held3 (fun w' => w'.cell? ⟨dB, 0, none⟩ = some (.int .i64 d.s0) ∧ w'.cell? ⟨dB, 1, none⟩ = some (.int .i64 d.s1) ∧ w'.cell? ⟨dB, 2, none⟩ = some (.int .i64 d.l0) ∧ w'.cell? ⟨dB, 3, none⟩ = some (.int .i64 d.l1) ∧ w'.cell? ⟨dB, 4, none⟩ = some (.int .i64 d.i0) ∧ w'.cell? ⟨dB, 5, none⟩ = some (.int .i64 d.i1) ∧ w'.cell? ⟨dB, 6, none⟩ = some (pv))
    (first | exact cur | exact d7_drew cur | exact d7_alloc cur | exact d7_drew (d7_alloc cur) | exact d7_drew (d7_alloc (d7_alloc cur)) | exact d7_alloc (d7_alloc cur) | go_keep)
    (first
      | (go_at_call 27
         refine (kD2 16 _ _ _ _ _ _ A0 A1 (by first | omega | (simp only [Tm.size]; omega))).mono ?_
         rintro e wn ⟨vj, rfl, J1, hE⟩
         obtain ⟨ajJ1, mjJ1, cjJ1, rfl⟩ := J1.val
         replace A0 := A0.ext hE
         replace A1 := A1.ext hE
         replace cur := d7_later hE cur
         replace EX := EX.trans hE
         clear hE)
      | (go_at_call 26
         refine (HH.out _ _ _ _ (by first | exact EX | exact EX.trans (Below.drew (Ext.refl _))) (by first | exact J1 | exact J1.ext (Below.drew (Ext.refl _))) _ _ (((F0.out).two (F1.out) 16 35 5 (.inr ⟨by omega, by omega⟩) (by omega))) (by omega) (by omega) E2.out).mono ?_
         rintro e wn ⟨rfl, hE⟩
         have hE := (show Ext _ wn by first | exact hE | exact Ext.trans (Below.drew (Ext.refl _)) hE)
         replace A0 := A0.ext hE
         replace A1 := A1.ext hE
         replace cur := d7_later hE cur
         replace EX := EX.trans hE
         clear hE
         clear J1))
  go_wp2_with fail
  go_region_held3 (fun w' => w'.cell? ⟨dB, 0, none⟩ = some (.int .i64 d.s0) ∧ w'.cell? ⟨dB, 1, none⟩ = some (.int .i64 d.s1) ∧ w'.cell? ⟨dB, 2, none⟩ = some (.int .i64 d.l0) ∧ w'.cell? ⟨dB, 3, none⟩ = some (.int .i64 d.l1) ∧ w'.cell? ⟨dB, 4, none⟩ = some (.int .i64 d.i0) ∧ w'.cell? ⟨dB, 5, none⟩ = some (.int .i64 d.i1) ∧ w'.cell? ⟨dB, 6, none⟩ = some (pv))
    (first | exact cur | exact d7_drew cur | exact d7_alloc cur | exact d7_drew (d7_alloc cur) | exact d7_drew (d7_alloc (d7_alloc cur)) | exact d7_alloc (d7_alloc cur) | go_keep)
    (first
      | (go_at_call 27
         have hq := J3
         clear hq
         refine (kT1 10 _ _ _ _ J3 (by first | omega | (simp only [Tm.size]; omega))).mono ?_
         rintro e wn ⟨vj, rfl, J4, hE⟩
         obtain ⟨ajJ4, mjJ4, cjJ4, rfl⟩ := J4.val
         replace A0 := A0.ext hE
         replace A1 := A1.ext hE
         replace J1 := J1.ext hE
         replace J2 := J2.ext hE
         replace J3 := J3.ext hE
         replace cur := d7_later hE cur
         replace EX := EX.trans hE
         clear hE)
      | (go_at_call 27
         have hq := J2
         clear hq
         refine (kT2 15 _ _ _ _ _ _ J1 J2 (by first | omega | (simp only [Tm.size]; omega))).mono ?_
         rintro e wn ⟨vj, rfl, J3, hE⟩
         obtain ⟨ajJ3, mjJ3, cjJ3, rfl⟩ := J3.val
         replace A0 := A0.ext hE
         replace A1 := A1.ext hE
         replace J1 := J1.ext hE
         replace J2 := J2.ext hE
         replace cur := d7_later hE cur
         replace EX := EX.trans hE
         clear hE)
      | (go_at_call 27
         have hq := J1
         clear hq
         with_reducible refine (kS1 10 _ _ _ SB (by omega)).mono ?_
         rintro e wn ⟨vj, rfl, J2, hE⟩
         obtain ⟨ajJ2, mjJ2, cjJ2, rfl⟩ := J2.val
         clear SB
         replace A0 := A0.ext hE
         replace A1 := A1.ext hE
         replace J1 := J1.ext hE
         replace cur := d7_later hE cur
         replace EX := EX.trans hE
         clear hE)
      | (go_at_call 27
         have hq := J1
         clear hq
         with_reducible refine (kT1 10 _ _ _ _ A1 (by omega)).mono ?_
         rintro e wn ⟨vj, rfl, J2, hE⟩
         obtain ⟨ajJ2, mjJ2, cjJ2, rfl⟩ := J2.val
         replace A0 := A0.ext hE
         replace A1 := A1.ext hE
         replace J1 := J1.ext hE
         replace cur := d7_later hE cur
         replace EX := EX.trans hE
         clear hE)
      | (go_at_call 27
         with_reducible refine (kD1 10 _ _ _ _ A0 (by omega)).mono ?_
         rintro e wn ⟨vj, rfl, J1, hE⟩
         obtain ⟨ajJ1, mjJ1, cjJ1, rfl⟩ := J1.val
         replace A0 := A0.ext hE
         replace A1 := A1.ext hE
         replace cur := d7_later hE cur
         replace EX := EX.trans hE
         clear hE)
      | (go_at_call 27
         obtain ⟨S0, SB, hX⟩ := two_args wn 33 _ _ _ _ A0 A1
         with_reducible refine (kS1 10 _ _ _ S0 (by omega)).mono ?_
         rintro e wn ⟨vj, rfl, J1, hF⟩
         obtain ⟨ajJ1, mjJ1, cjJ1, rfl⟩ := J1.val
         replace SB := SB.ext hF
         have hE := hX.trans hF
         clear hX hF S0
         replace A0 := A0.ext hE
         replace A1 := A1.ext hE
         replace cur := d7_later hE cur
         replace EX := EX.trans hE
         clear hE)
      | (go_at_call 27
         obtain ⟨SB, S0, hX⟩ := two_args wn 33 _ _ _ _ A1 A0
         with_reducible refine (kS1 10 _ _ _ S0 (by omega)).mono ?_
         rintro e wn ⟨vj, rfl, J1, hF⟩
         obtain ⟨ajJ1, mjJ1, cjJ1, rfl⟩ := J1.val
         replace SB := SB.ext hF
         have hE := hX.trans hF
         clear hX hF S0
         replace A0 := A0.ext hE
         replace A1 := A1.ext hE
         replace cur := d7_later hE cur
         replace EX := EX.trans hE
         clear hE)
      | (go_at_call 26
         refine (HH.out _ _ _ _ (by first | exact EX | exact EX.trans (Below.drew (Ext.refl _))) (by first | exact J4 | exact J4.ext (Below.drew (Ext.refl _))) _ _ (((((((F0.out).one 10 18 2 (.inl ⟨rfl, by omega⟩) (by omega))).two (((F1.out).one 10 18 2 (.inl ⟨rfl, by omega⟩) (by omega))) 15 37 5 (.inr ⟨by omega, by omega⟩) (by omega))).one 10 38 5 (.inl ⟨rfl, by omega⟩) (by omega))) (by omega) (by omega) E3.out).mono ?_
         rintro e wn ⟨rfl, hE⟩
         have hE := (show Ext _ wn by first | exact hE | exact Ext.trans (Below.drew (Ext.refl _)) hE)
         replace A0 := A0.ext hE
         replace A1 := A1.ext hE
         replace cur := d7_later hE cur
         replace EX := EX.trans hE
         clear hE
         clear J1 J2 J3 J4))
  all_goals
    go_wp2_with fail
    go_region_held3 (fun w' => w'.cell? ⟨dB, 0, none⟩ = some (.int .i64 d.s0) ∧ w'.cell? ⟨dB, 1, none⟩ = some (.int .i64 d.s1) ∧ w'.cell? ⟨dB, 2, none⟩ = some (.int .i64 d.l0) ∧ w'.cell? ⟨dB, 3, none⟩ = some (.int .i64 d.l1) ∧ w'.cell? ⟨dB, 4, none⟩ = some (.int .i64 d.i0) ∧ w'.cell? ⟨dB, 5, none⟩ = some (.int .i64 d.i1) ∧ w'.cell? ⟨dB, 6, none⟩ = some (pv))
      (first | exact cur | exact d7_drew cur | exact d7_alloc cur | exact d7_drew (d7_alloc cur) | exact d7_drew (d7_alloc (d7_alloc cur)) | exact d7_alloc (d7_alloc cur) | go_keep)
      (first
        | (go_at_call 27
           refine (kD1 17 _ _ _ _ A0 (by first | omega | (simp only [Tm.size]; omega))).mono ?_
           rintro e wn ⟨vj, rfl, J1, hE⟩
           obtain ⟨ajJ1, mjJ1, cjJ1, rfl⟩ := J1.val
           replace A0 := A0.ext hE
           replace A1 := A1.ext hE
           replace cur := d7_later hE cur
           replace EX := EX.trans hE
           clear hE)
        | (go_at_call 26
           refine (HH.out _ _ _ _ (by first | exact EX | exact EX.trans (Below.drew (Ext.refl _))) (by first | exact J1 | exact J1.ext (Below.drew (Ext.refl _))) _ _ (((F0.out).one 17 18 3 (.inr ⟨by omega, by omega⟩) (by omega))) (by omega) (by omega) E4.out).mono ?_
           rintro e wn ⟨rfl, hE⟩
           have hE := (show Ext _ wn by first | exact hE | exact Ext.trans (Below.drew (Ext.refl _)) hE)
           replace A0 := A0.ext hE
           replace A1 := A1.ext hE
           replace cur := d7_later hE cur
           replace EX := EX.trans hE
           clear hE
           clear J1))
    go_wp2_with fail
    go_region_held3 (fun w' => w'.cell? ⟨dB, 0, none⟩ = some (.int .i64 d.s0) ∧ w'.cell? ⟨dB, 1, none⟩ = some (.int .i64 d.s1) ∧ w'.cell? ⟨dB, 2, none⟩ = some (.int .i64 d.l0) ∧ w'.cell? ⟨dB, 3, none⟩ = some (.int .i64 d.l1) ∧ w'.cell? ⟨dB, 4, none⟩ = some (.int .i64 d.i0) ∧ w'.cell? ⟨dB, 5, none⟩ = some (.int .i64 d.i1) ∧ w'.cell? ⟨dB, 6, none⟩ = some (pv))
      (first | exact cur | exact d7_drew cur | exact d7_alloc cur | exact d7_drew (d7_alloc cur) | exact d7_drew (d7_alloc (d7_alloc cur)) | exact d7_alloc (d7_alloc cur) | go_keep)
      (first
        | (go_at_call 27
           refine (kY2 15 _ _ _ _ _ A0 (by first | omega | (simp only [Tm.size]; omega))).mono ?_
           rintro e wn ⟨vj, rfl, J1, hE⟩
           obtain ⟨ajJ1, mjJ1, cjJ1, rfl⟩ := J1.val
           replace A0 := A0.ext hE
           replace A1 := A1.ext hE
           replace cur := d7_later hE cur
           replace EX := EX.trans hE
           clear hE)
        | (go_at_call 26
           refine (HH.out _ _ _ _ (by first | exact EX | exact EX.trans (Below.drew (Ext.refl _))) (by first | exact J1 | exact J1.ext (Below.drew (Ext.refl _))) _ _ (((fm_yes).two (F0.out) 15 19 3 (.inr ⟨by omega, by omega⟩) (by omega))) (by omega) (by omega) E5.out).mono ?_
           rintro e wn ⟨rfl, hE⟩
           have hE := (show Ext _ wn by first | exact hE | exact Ext.trans (Below.drew (Ext.refl _)) hE)
           replace A0 := A0.ext hE
           replace A1 := A1.ext hE
           replace cur := d7_later hE cur
           replace EX := EX.trans hE
           clear hE
           clear J1))
    obtain ⟨q0, q1, q2, q3, q4, q5, q6⟩ := id cur
    go_wp2_with fail
    clear q0 q1 q2 q3 q4 q5 q6
    have hE := ext_al (Ext.refl wn) (Obj.cells #[.int .i64 11, .int .i64 0] 75)
    refine (HH.out _ _ _ _ (EX.trans hE) (isT_lit wn 75 11 0 _ rfl) _ _ fm_yes (by omega) (by omega) E11.out).mono ?_
    rintro e wz ⟨rfl, hF⟩
    replace hE := hE.trans hF
    clear hF
    replace A0 := A0.ext hE
    replace A1 := A1.ext hE
    replace cur := d7_later hE cur
    replace EX := EX.trans hE
    clear hE
    obtain ⟨wn, rfl⟩ : ∃ x, x = wz := ⟨_, rfl⟩
    clear HH cur
    cases b1
    all_goals cases b3
    all_goals cases b5
    all_goals
      go_wp2
      go_ret
      exact ⟨rfl, EE.trans EX⟩

end Go.Proofs.YtbmimdnpchldlaaGreatDoor
