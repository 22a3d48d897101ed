/- The law EvalLogic. -/
import Derived.Test.YtjjamfbjapbkgaaDoorEvalL
namespace Go.Proofs.YtjjamfbjapbkgaaDoor
open Go.RowKit

set_option maxRecDepth 100000 in
set_option maxHeartbeats 8000000 in
theorem evalLogic_law (v0 v1 : Value) (cs2 : Array Value) (W : World) (ht : Tab W) (h0 : Cells Tryd.prog W 22 [v0]) (h1 : Cells Tryd.prog W 22 [v1]) (h2 : Cells Tryd.prog W 45 cs2.toList) :
    Calls Tryd.prog 10 #[v0, v1, .agg cs2] W fun e w' => e = .returned (.bool true) ∧ Ext W w' := by
  obtain ⟨raw0, o0, hraw0⟩ := raw_of h0
  obtain ⟨raw1, o1, hraw1⟩ := raw_of h1
  obtain ⟨x, y, z, rfl, hx, hy, hz⟩ := arr3 h2
  have EE : Ext W (W.alloc (Obj.cells #[.int .i64 x, .int .i64 y, .int .i64 z] 45)) := (Ext.refl W).alloc (Nat.le_refl _) _
  have cur : (W.alloc (Obj.cells #[.int .i64 x, .int .i64 y, .int .i64 z] 45)).cell? ⟨W.heap.size, 0, none⟩ = some (.int .i64 x) ∧ (W.alloc (Obj.cells #[.int .i64 x, .int .i64 y, .int .i64 z] 45)).cell? ⟨W.heap.size, 1, none⟩ = some (.int .i64 y) ∧ (W.alloc (Obj.cells #[.int .i64 x, .int .i64 y, .int .i64 z] 45)).cell? ⟨W.heap.size, 2, none⟩ = some (.int .i64 z) := by simp [go_sem]
  have TB := ht.ext EE
  have HENV : Hid (∀ w : World, Calls Tryd.prog 25 #[.agg #[.int .i64 x, .int .i64 y, .int .i64 z]] w fun e w' => ∃ v', e = .returned v' ∧ Ints w' v' (envL x y z) ∧ Ext w w') := Lib.hid fun w => env_any x y z w hx hy hz
  have hlen : (envL x y z).length = 3 := rfl
  have HSM := Lib.hid (env_small x y z)
  obtain ⟨n0, X0, hn0⟩ := ex_tru raw0 x y z
  have M0 := fun w => mkTruth v0 raw0 3 w
  replace o0 := ops_ext o0 EE
  obtain ⟨n1, X1, hn1⟩ := ex_tru raw1 x y z
  have M1 := fun w => mkTruth v1 raw1 3 w
  replace o1 := ops_ext o1 EE
  generalize envL x y z = env at *
  generalize truO raw0 3 = t0 at *
  generalize truO raw1 3 = t1 at *
  have FX0 := Lib.hid X0
  have hs0 := X0.size
  have MM0 := Lib.hid M0
  have N0 := Lib.hid hn0
  clear X0 M0 hn0
  have FX1 := Lib.hid X1
  have hs1 := X1.size
  have MM1 := Lib.hid M1
  have N1 := Lib.hid hn1
  clear X1 M1 hn1
  obtain ⟨a, nx, ny, p, r, b, e1, e2, e3, e4, e5, e6, e7, e8, e9, z, hp⟩ : ∃ a nx ny p r b : Int, opV 8 n0 n1 = a ∧ 1 - a = p ∧ 1 - n0 = nx ∧ 1 - n1 = ny ∧ opV 9 nx ny = p ∧ opV 9 n0 n1 = r ∧ opV 8 nx ny = b ∧ 1 - b = r ∧ opV 9 n0 nx = 1 ∧
      (Small a ∧ Small nx ∧ Small ny ∧ Small p ∧ Small r ∧ Small b) ∧ (p = 0 ∨ p = 1) := by
    rcases N0.out with rfl | rfl
    all_goals
      rcases N1.out with rfl | rfl
      all_goals exact ⟨_, _, _, _, _, _, rfl, rfl, rfl, rfl, rfl, rfl, rfl, rfl, rfl, by decide, by decide⟩
  have E1 := Lib.hid e1
  have E2 := Lib.hid e2
  have E3 := Lib.hid e3
  have E4 := Lib.hid e4
  have E5 := Lib.hid e5
  have E6 := Lib.hid e6
  have E7 := Lib.hid e7
  have E8 := Lib.hid e8
  have E9 := Lib.hid e9
  have Z := Lib.hid z
  have HP := Lib.hid hp
  have FA := Lib.hid (FX0.out.not' 27 (by omega) nx e3 z.2.1)
  have FB := Lib.hid (FX1.out.not' 27 (by omega) ny e4 z.2.2.1)
  have FAB := Lib.hid (Ex.two' FX0.out FX1.out 8 (by omega) rfl rfl 53 (by omega) true rfl a e1 z.1)
  have FNN := Lib.hid (Ex.two' FA.out FB.out 8 (by omega) rfl rfl 55 (by omega) true rfl b e7 z.2.2.2.2.2)
  clear e1 e2 e3 e4 e5 e6 e7 e8 e9 z hp
  clear ht h0 h1 h2 hx hy hz
  go_enter Tryd.func10, Tryd.ntmps10
  go_wp2_with fail
  generalize W.alloc (Obj.cells #[.int .i64 x, .int .i64 y, .int .i64 z] 45) = w0 at *
  skip
  refine (MM0.out _ o0 hraw0 (by omega)).mono ?_
  rintro e wn ⟨u0, rfl, hown, hE⟩
  have A0 := isT_own hown
  obtain ⟨a0, m0, c0, rfl⟩ := A0.val
  clear hown o0
  replace o1 := ops_ext o1 hE
  replace TB := TB.ext hE
  replace cur := arr_later hE cur
  replace EE := EE.trans hE
  clear hE
  go_wp2_with fail
  refine (MM1.out _ o1 hraw1 (by omega)).mono ?_
  rintro e wn ⟨u1, rfl, hown, hE⟩
  have A1 := isT_own hown
  obtain ⟨a1, m1, c1, rfl⟩ := A1.val
  clear hown o1
  replace A0 := A0.ext hE
  replace TB := TB.ext hE
  replace cur := arr_later hE cur
  replace EE := EE.trans hE
  clear hE
  go_wp2_with fail
  go_region_held3 (fun w' => w'.cell? ⟨W.heap.size, 0, none⟩ = some (.int .i64 x) ∧ w'.cell? ⟨W.heap.size, 1, none⟩ = some (.int .i64 y) ∧ w'.cell? ⟨W.heap.size, 2, none⟩ = some (.int .i64 z))
    (first | exact cur | exact arr_drew cur | exact arr_alloc cur | exact arr_drew (arr_alloc cur) | exact arr_drew (arr_alloc (arr_alloc cur)) | go_keep)
    (first
      | (go_at_call 21
         have hq := J1
         clear hq
         refine (joinT1 10 _ _ _ _ J1 (by first | omega | (simp only [Tm.size]; omega))).mono ?_
         rintro e wn ⟨vj, rfl, J2, hE⟩
         obtain ⟨ajJ2, mjJ2, cjJ2, rfl⟩ := J2.val
         replace A0 := A0.ext hE
         replace A1 := A1.ext hE
         replace J1 := J1.ext hE
         replace TB := TB.ext hE
         replace cur := arr_later hE cur
         replace EE := EE.trans hE
         clear hE)
      | (go_at_call 21
         refine (joinD2 8 _ _ _ _ _ _ A0 A1 (by first | omega | (simp only [Tm.size]; omega))).mono ?_
         rintro e wn ⟨vj, rfl, J1, hE⟩
         obtain ⟨ajJ1, mjJ1, cjJ1, rfl⟩ := J1.val
         replace A0 := A0.ext hE
         replace A1 := A1.ext hE
         replace TB := TB.ext hE
         replace cur := arr_later hE cur
         replace EE := EE.trans hE
         clear hE)
      | (go_at_call 25
         refine (HENV.out _).mono ?_
         rintro e wn ⟨ve, rfl, VE, hE⟩
         replace A0 := A0.ext hE
         replace A1 := A1.ext hE
         replace J1 := J1.ext hE
         replace J2 := J2.ext hE
         replace TB := TB.ext hE
         replace cur := arr_later hE cur
         replace EE := EE.trans hE
         clear hE)
      | (go_at_call 24
         refine (eval_ok _ _ _ _ _ J2 VE TB (FAB.out.not' 54 (by omega) p E2.out Z.out.2.2.2.1) (by omega) hlen HSM.out).mono ?_
         rintro e wn ⟨rfl, hE⟩
         replace A0 := A0.ext hE
         replace A1 := A1.ext hE
         replace TB := TB.ext hE
         replace cur := arr_later hE cur
         replace EE := EE.trans hE
         clear hE
         clear VE J1 J2))
  go_wp2_with fail
  go_region_held3 (fun w' => w'.cell? ⟨W.heap.size, 0, none⟩ = some (.int .i64 x) ∧ w'.cell? ⟨W.heap.size, 1, none⟩ = some (.int .i64 y) ∧ w'.cell? ⟨W.heap.size, 2, none⟩ = some (.int .i64 z))
    (first | exact cur | exact arr_drew cur | exact arr_alloc cur | exact arr_drew (arr_alloc cur) | exact arr_drew (arr_alloc (arr_alloc cur)) | go_keep)
    (first
      | (go_at_call 21
         have hq := J2
         clear hq
         refine (joinT2 9 _ _ _ _ _ _ J1 J2 (by first | omega | (simp only [Tm.size]; omega))).mono ?_
         rintro e wn ⟨vj, rfl, J3, hE⟩
         obtain ⟨ajJ3, mjJ3, cjJ3, rfl⟩ := J3.val
         replace A0 := A0.ext hE
         replace A1 := A1.ext hE
         replace J1 := J1.ext hE
         replace J2 := J2.ext hE
         replace TB := TB.ext hE
         replace cur := arr_later hE cur
         replace EE := EE.trans hE
         clear hE)
      | (go_at_call 21
         have hq := J1
         clear hq
         with_reducible refine (joinS1 10 _ _ _ SB (by omega)).mono ?_
         rintro e wn ⟨vj, rfl, J2, hE⟩
         obtain ⟨ajJ2, mjJ2, cjJ2, rfl⟩ := J2.val
         clear SB
         replace A0 := A0.ext hE
         replace A1 := A1.ext hE
         replace J1 := J1.ext hE
         replace TB := TB.ext hE
         replace cur := arr_later hE cur
         replace EE := EE.trans hE
         clear hE)
      | (go_at_call 21
         have hq := J1
         clear hq
         with_reducible refine (joinT1 10 _ _ _ _ A1 (by omega)).mono ?_
         rintro e wn ⟨vj, rfl, J2, hE⟩
         obtain ⟨ajJ2, mjJ2, cjJ2, rfl⟩ := J2.val
         replace A0 := A0.ext hE
         replace A1 := A1.ext hE
         replace J1 := J1.ext hE
         replace TB := TB.ext hE
         replace cur := arr_later hE cur
         replace EE := EE.trans hE
         clear hE)
      | (go_at_call 21
         with_reducible refine (joinD1 10 _ _ _ _ A0 (by omega)).mono ?_
         rintro e wn ⟨vj, rfl, J1, hE⟩
         obtain ⟨ajJ1, mjJ1, cjJ1, rfl⟩ := J1.val
         replace A0 := A0.ext hE
         replace A1 := A1.ext hE
         replace TB := TB.ext hE
         replace cur := arr_later hE cur
         replace EE := EE.trans hE
         clear hE)
      | (go_at_call 21
         obtain ⟨S0, SB, hX⟩ := two_args wn 23 _ _ _ _ A0 A1
         with_reducible refine (joinS1 10 _ _ _ S0 (by omega)).mono ?_
         rintro e wn ⟨vj, rfl, J1, hF⟩
         obtain ⟨ajJ1, mjJ1, cjJ1, rfl⟩ := J1.val
         replace SB := SB.ext hF
         have hE := hX.trans hF
         clear hX hF S0
         replace A0 := A0.ext hE
         replace A1 := A1.ext hE
         replace TB := TB.ext hE
         replace cur := arr_later hE cur
         replace EE := EE.trans hE
         clear hE)
      | (go_at_call 21
         obtain ⟨SB, S0, hX⟩ := two_args wn 23 _ _ _ _ A1 A0
         with_reducible refine (joinS1 10 _ _ _ S0 (by omega)).mono ?_
         rintro e wn ⟨vj, rfl, J1, hF⟩
         obtain ⟨ajJ1, mjJ1, cjJ1, rfl⟩ := J1.val
         replace SB := SB.ext hF
         have hE := hX.trans hF
         clear hX hF S0
         replace A0 := A0.ext hE
         replace A1 := A1.ext hE
         replace TB := TB.ext hE
         replace cur := arr_later hE cur
         replace EE := EE.trans hE
         clear hE)
      | (go_at_call 25
         refine (HENV.out _).mono ?_
         rintro e wn ⟨ve, rfl, VE, hE⟩
         replace A0 := A0.ext hE
         replace A1 := A1.ext hE
         replace J1 := J1.ext hE
         replace J2 := J2.ext hE
         replace J3 := J3.ext hE
         replace TB := TB.ext hE
         replace cur := arr_later hE cur
         replace EE := EE.trans hE
         clear hE)
      | (go_at_call 24
         refine (eval_ok _ _ _ _ _ J3 VE TB (Ex.two' FA.out FB.out 9 (by omega) rfl rfl 55 (by omega) true rfl p E5.out Z.out.2.2.2.1) (by omega) hlen HSM.out).mono ?_
         rintro e wn ⟨rfl, hE⟩
         replace A0 := A0.ext hE
         replace A1 := A1.ext hE
         replace TB := TB.ext hE
         replace cur := arr_later hE cur
         replace EE := EE.trans hE
         clear hE
         clear VE J1 J2 J3))
  all_goals
    go_wp2_with fail
    go_region_held3 (fun w' => w'.cell? ⟨W.heap.size, 0, none⟩ = some (.int .i64 x) ∧ w'.cell? ⟨W.heap.size, 1, none⟩ = some (.int .i64 y) ∧ w'.cell? ⟨W.heap.size, 2, none⟩ = some (.int .i64 z))
      (first | exact cur | exact arr_drew cur | exact arr_alloc cur | exact arr_drew (arr_alloc cur) | exact arr_drew (arr_alloc (arr_alloc cur)) | go_keep)
      (first
        | (go_at_call 21
           refine (joinD2 9 _ _ _ _ _ _ A0 A1 (by first | omega | (simp only [Tm.size]; omega))).mono ?_
           rintro e wn ⟨vj, rfl, J1, hE⟩
           obtain ⟨ajJ1, mjJ1, cjJ1, rfl⟩ := J1.val
           replace A0 := A0.ext hE
           replace A1 := A1.ext hE
           replace TB := TB.ext hE
           replace cur := arr_later hE cur
           replace EE := EE.trans hE
           clear hE)
        | (go_at_call 25
           refine (HENV.out _).mono ?_
           rintro e wn ⟨ve, rfl, VE, hE⟩
           replace A0 := A0.ext hE
           replace A1 := A1.ext hE
           replace J1 := J1.ext hE
           replace TB := TB.ext hE
           replace cur := arr_later hE cur
           replace EE := EE.trans hE
           clear hE)
        | (go_at_call 24
           refine (eval_ok _ _ _ _ _ J1 VE TB (Ex.two' FX0.out FX1.out 9 (by omega) rfl rfl 53 (by omega) true rfl r E6.out Z.out.2.2.2.2.1) (by omega) hlen HSM.out).mono ?_
           rintro e wn ⟨rfl, hE⟩
           replace A0 := A0.ext hE
           replace A1 := A1.ext hE
           replace TB := TB.ext hE
           replace cur := arr_later hE cur
           replace EE := EE.trans hE
           clear hE
           clear VE J1))
    go_wp2_with fail
    go_region_held3 (fun w' => w'.cell? ⟨W.heap.size, 0, none⟩ = some (.int .i64 x) ∧ w'.cell? ⟨W.heap.size, 1, none⟩ = some (.int .i64 y) ∧ w'.cell? ⟨W.heap.size, 2, none⟩ = some (.int .i64 z))
      (first | exact cur | exact arr_drew cur | exact arr_alloc cur | exact arr_drew (arr_alloc cur) | exact arr_drew (arr_alloc (arr_alloc cur)) | go_keep)
      (first
        | (go_at_call 21
           have hq := J3
           clear hq
           refine (joinT1 10 _ _ _ _ J3 (by first | omega | (simp only [Tm.size]; omega))).mono ?_
           rintro e wn ⟨vj, rfl, J4, hE⟩
           obtain ⟨ajJ4, mjJ4, cjJ4, rfl⟩ := J4.val
           replace A0 := A0.ext hE
           replace A1 := A1.ext hE
           replace J1 := J1.ext hE
           replace J2 := J2.ext hE
           replace J3 := J3.ext hE
           replace TB := TB.ext hE
           replace cur := arr_later hE cur
           replace EE := EE.trans hE
           clear hE)
        | (go_at_call 21
           have hq := J2
           clear hq
           refine (joinT2 8 _ _ _ _ _ _ J1 J2 (by first | omega | (simp only [Tm.size]; omega))).mono ?_
           rintro e wn ⟨vj, rfl, J3, hE⟩
           obtain ⟨ajJ3, mjJ3, cjJ3, rfl⟩ := J3.val
           replace A0 := A0.ext hE
           replace A1 := A1.ext hE
           replace J1 := J1.ext hE
           replace J2 := J2.ext hE
           replace TB := TB.ext hE
           replace cur := arr_later hE cur
           replace EE := EE.trans hE
           clear hE)
        | (go_at_call 21
           have hq := J1
           clear hq
           with_reducible refine (joinS1 10 _ _ _ SB (by omega)).mono ?_
           rintro e wn ⟨vj, rfl, J2, hE⟩
           obtain ⟨ajJ2, mjJ2, cjJ2, rfl⟩ := J2.val
           clear SB
           replace A0 := A0.ext hE
           replace A1 := A1.ext hE
           replace J1 := J1.ext hE
           replace TB := TB.ext hE
           replace cur := arr_later hE cur
           replace EE := EE.trans hE
           clear hE)
        | (go_at_call 21
           have hq := J1
           clear hq
           with_reducible refine (joinT1 10 _ _ _ _ A1 (by omega)).mono ?_
           rintro e wn ⟨vj, rfl, J2, hE⟩
           obtain ⟨ajJ2, mjJ2, cjJ2, rfl⟩ := J2.val
           replace A0 := A0.ext hE
           replace A1 := A1.ext hE
           replace J1 := J1.ext hE
           replace TB := TB.ext hE
           replace cur := arr_later hE cur
           replace EE := EE.trans hE
           clear hE)
        | (go_at_call 21
           with_reducible refine (joinD1 10 _ _ _ _ A0 (by omega)).mono ?_
           rintro e wn ⟨vj, rfl, J1, hE⟩
           obtain ⟨ajJ1, mjJ1, cjJ1, rfl⟩ := J1.val
           replace A0 := A0.ext hE
           replace A1 := A1.ext hE
           replace TB := TB.ext hE
           replace cur := arr_later hE cur
           replace EE := EE.trans hE
           clear hE)
        | (go_at_call 21
           obtain ⟨S0, SB, hX⟩ := two_args wn 23 _ _ _ _ A0 A1
           with_reducible refine (joinS1 10 _ _ _ S0 (by omega)).mono ?_
           rintro e wn ⟨vj, rfl, J1, hF⟩
           obtain ⟨ajJ1, mjJ1, cjJ1, rfl⟩ := J1.val
           replace SB := SB.ext hF
           have hE := hX.trans hF
           clear hX hF S0
           replace A0 := A0.ext hE
           replace A1 := A1.ext hE
           replace TB := TB.ext hE
           replace cur := arr_later hE cur
           replace EE := EE.trans hE
           clear hE)
        | (go_at_call 21
           obtain ⟨SB, S0, hX⟩ := two_args wn 23 _ _ _ _ A1 A0
           with_reducible refine (joinS1 10 _ _ _ S0 (by omega)).mono ?_
           rintro e wn ⟨vj, rfl, J1, hF⟩
           obtain ⟨ajJ1, mjJ1, cjJ1, rfl⟩ := J1.val
           replace SB := SB.ext hF
           have hE := hX.trans hF
           clear hX hF S0
           replace A0 := A0.ext hE
           replace A1 := A1.ext hE
           replace TB := TB.ext hE
           replace cur := arr_later hE cur
           replace EE := EE.trans hE
           clear hE)
        | (go_at_call 25
           refine (HENV.out _).mono ?_
           rintro e wn ⟨ve, rfl, VE, hE⟩
           replace A0 := A0.ext hE
           replace A1 := A1.ext hE
           replace J1 := J1.ext hE
           replace J2 := J2.ext hE
           replace J3 := J3.ext hE
           replace J4 := J4.ext hE
           replace TB := TB.ext hE
           replace cur := arr_later hE cur
           replace EE := EE.trans hE
           clear hE)
        | (go_at_call 24
           refine (eval_ok _ _ _ _ _ J4 VE TB (FNN.out.not' 56 (by omega) r E8.out Z.out.2.2.2.2.1) (by omega) hlen HSM.out).mono ?_
           rintro e wn ⟨rfl, hE⟩
           replace A0 := A0.ext hE
           replace A1 := A1.ext hE
           replace TB := TB.ext hE
           replace cur := arr_later hE cur
           replace EE := EE.trans hE
           clear hE
           clear VE J1 J2 J3 J4))
    all_goals
      go_wp2_with fail
      go_region_held3 (fun w' => w'.cell? ⟨W.heap.size, 0, none⟩ = some (.int .i64 x) ∧ w'.cell? ⟨W.heap.size, 1, none⟩ = some (.int .i64 y) ∧ w'.cell? ⟨W.heap.size, 2, none⟩ = some (.int .i64 z))
        (first | exact cur | exact arr_drew cur | exact arr_alloc cur | exact arr_drew (arr_alloc cur) | exact arr_drew (arr_alloc (arr_alloc cur)) | go_keep)
        (first
          | (go_at_call 21
             have hq := J1
             clear hq
             refine (joinT2 9 _ _ _ _ _ _ A0 J1 (by first | omega | (simp only [Tm.size]; omega))).mono ?_
             rintro e wn ⟨vj, rfl, J2, hE⟩
             obtain ⟨ajJ2, mjJ2, cjJ2, rfl⟩ := J2.val
             replace A0 := A0.ext hE
             replace A1 := A1.ext hE
             replace J1 := J1.ext hE
             replace TB := TB.ext hE
             replace cur := arr_later hE cur
             replace EE := EE.trans hE
             clear hE)
          | (go_at_call 21
             refine (joinD1 10 _ _ _ _ A0 (by first | omega | (simp only [Tm.size]; omega))).mono ?_
             rintro e wn ⟨vj, rfl, J1, hE⟩
             obtain ⟨ajJ1, mjJ1, cjJ1, rfl⟩ := J1.val
             replace A0 := A0.ext hE
             replace A1 := A1.ext hE
             replace TB := TB.ext hE
             replace cur := arr_later hE cur
             replace EE := EE.trans hE
             clear hE)
          | (go_at_call 25
             refine (HENV.out _).mono ?_
             rintro e wn ⟨ve, rfl, VE, hE⟩
             replace A0 := A0.ext hE
             replace A1 := A1.ext hE
             replace J1 := J1.ext hE
             replace J2 := J2.ext hE
             replace TB := TB.ext hE
             replace cur := arr_later hE cur
             replace EE := EE.trans hE
             clear hE)
          | (go_at_call 24
             refine (eval_ok _ _ _ _ _ J2 VE TB (Ex.two' FX0.out FA.out 9 (by omega) rfl rfl 54 (by omega) true rfl 1 E9.out (by decide)) (by omega) hlen HSM.out).mono ?_
             rintro e wn ⟨rfl, hE⟩
             replace A0 := A0.ext hE
             replace A1 := A1.ext hE
             replace TB := TB.ext hE
             replace cur := arr_later hE cur
             replace EE := EE.trans hE
             clear hE
             clear VE J1 J2))
      rcases HP.out with rfl | rfl
      all_goals
        go_wp2
        go_ret
        exact ⟨rfl, EE⟩

end Go.Proofs.YtjjamfbjapbkgaaDoor
