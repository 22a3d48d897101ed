/- The law EvalShift. -/
import Derived.Test.YtjjamfbjapbkgaaDoorEvalL
namespace Go.Proofs.YtjjamfbjapbkgaaDoor
open Go.RowKit

set_option maxRecDepth 100000 in
set_option maxHeartbeats 8000000 in
theorem evalShift_law (v0 v1 : Value) (cs2 : Array Value) (W : World) (ht : Tab W) (h0 : Cells Tryd.prog W 22 [v0]) (h1 : Cells Tryd.prog W 3 [v1]) (h2 : Cells Tryd.prog W 45 cs2.toList) :
    Calls Tryd.prog 12 #[v0, v1, .agg cs2] W fun e w' => e = .returned (.bool true) ∧ Ext W w' := by
  obtain ⟨raw0, o0, hraw0⟩ := raw_of h0
  obtain ⟨kk, hk0, hkb⟩ := h1.i64 Tryd.underlying3
  simp only [List.cons.injEq, and_true] at hk0
  subst hk0
  obtain ⟨x, y, z, rfl, hx, hy, hz⟩ := arr3 h2
  have EE : Ext W (W.alloc (Obj.cells #[.int .i64 x, .int .i64 y, .int .i64 z] 45)) := (Ext.refl W).alloc (Nat.le_refl _) _
  have cur : (W.alloc (Obj.cells #[.int .i64 x, .int .i64 y, .int .i64 z] 45)).cell? ⟨W.heap.size, 0, none⟩ = some (.int .i64 x) ∧ (W.alloc (Obj.cells #[.int .i64 x, .int .i64 y, .int .i64 z] 45)).cell? ⟨W.heap.size, 1, none⟩ = some (.int .i64 y) ∧ (W.alloc (Obj.cells #[.int .i64 x, .int .i64 y, .int .i64 z] 45)).cell? ⟨W.heap.size, 2, none⟩ = some (.int .i64 z) := by simp [go_sem]
  have TB := ht.ext EE
  have HENV : Hid (∀ w : World, Calls Tryd.prog 25 #[.agg #[.int .i64 x, .int .i64 y, .int .i64 z]] w fun e w' => ∃ v', e = .returned v' ∧ Ints w' v' (envL x y z) ∧ Ext w w') := Lib.hid fun w => env_any x y z w hx hy hz
  have hlen : (envL x y z).length = 3 := rfl
  have HSM := Lib.hid (env_small x y z)
  obtain ⟨n0, X0, hn0⟩ := ex_num raw0 x y z
  have M0 := fun w => mkNumber v0 raw0 3 w
  replace o0 := ops_ext o0 EE
  generalize envL x y z = env at *
  generalize numO raw0 3 = t0 at *
  have FX0 := Lib.hid X0
  have hs0 := X0.size
  have MM0 := Lib.hid M0
  have N0 := Lib.hid hn0
  clear X0 M0 hn0
  have hpk := pk_bd kk 2001 (by omega)
  unfold I64 at hkb
  generalize hcc : pk kk 2001 - 1000 = c at *
  have hc1 : -1000 ≤ c := by omega
  have hc2 : c ≤ 1000 := by omega
  have hn := N0.out
  have LC := Lib.hid (ex_lit env c hc1 hc2)
  have L1 := Lib.hid (ex_lit env 1 (by omega) (by omega))
  have L0 := Lib.hid (ex_lit env 0 (by omega) (by omega))
  have FAD := Lib.hid (Ex.two' FX0.out LC.out 3 (by omega) rfl rfl 9 (by omega) false rfl (n0 + c) rfl (by unfold Small; omega))
  have FSU := Lib.hid (Ex.two' FAD.out LC.out 4 (by omega) rfl rfl 11 (by omega) false rfl n0 (by show n0 + c - c = n0; omega) (by unfold Small; omega))
  have FMU := Lib.hid (Ex.two' L1.out FX0.out 5 (by omega) rfl rfl 9 (by omega) false rfl n0 (by show 1 * n0 = n0; omega) (by unfold Small; omega))
  have FZE := Lib.hid (Ex.two' FX0.out L0.out 5 (by omega) rfl rfl 9 (by omega) false rfl 0 (by show n0 * 0 = 0; omega) (by decide))
  have HCC := Lib.hid hcc
  clear hcc hn
  clear ht h0 h2 hx hy hz
  go_enter Tryd.func12, Tryd.ntmps12
  go_wp2_with fail
  generalize W.alloc (Obj.cells #[.int .i64 x, .int .i64 y, .int .i64 z] 45) = w0 at *
  skip
  refine (MM0.out _ o0 hraw0 (by omega)).mono ?_
  rintro e wn ⟨u0, rfl, hown, hE⟩
  have A0 := isT_own hown
  obtain ⟨a0, m0, c0, rfl⟩ := A0.val
  clear hown o0
  replace TB := TB.ext hE
  replace cur := arr_later hE cur
  replace EE := EE.trans hE
  clear hE
  go_wp2_with fail
  refine (picked_any kk 2001 _ (by omega) (by omega) (by omega) (by omega)).mono ?_
  rintro e wq ⟨rfl, rfl⟩
  go_wp2_with fail
  rw [HCC.out]
  refine (num_any c _).mono ?_
  rintro e wn ⟨vj, rfl, AC, hE⟩
  obtain ⟨acc, mcc, ccc, rfl⟩ := AC.val
  replace A0 := A0.ext hE
  replace TB := TB.ext hE
  replace cur := arr_later hE cur
  replace EE := EE.trans hE
  clear hE
  have q0 := cur.1
  have q1 := cur.2.1
  have q2 := cur.2.2
  go_wp2_with fail
  clear q0 q1 q2
  refine (HENV.out _).mono ?_
  rintro e wn ⟨ve, rfl, VE, hE⟩
  replace A0 := A0.ext hE
  replace AC := AC.ext hE
  replace TB := TB.ext hE
  replace cur := arr_later hE cur
  replace EE := EE.trans hE
  clear hE
  go_wp2_with fail
  refine (eval_ok _ _ _ _ _ A0 VE TB (FX0.out) (by omega) hlen HSM.out).mono ?_
  rintro e wn ⟨rfl, hE⟩
  replace A0 := A0.ext hE
  replace AC := AC.ext hE
  replace TB := TB.ext hE
  replace cur := arr_later hE cur
  replace EE := EE.trans hE
  clear hE
  clear VE
  go_wp2_with fail
  go_region_held3 (fun w' => w'.cell? ⟨W.heap.size, 0, none⟩ = some (.int .i64 x) ∧ w'.cell? ⟨W.heap.size, 1, none⟩ = some (.int .i64 y) ∧ w'.cell? ⟨W.heap.size, 2, none⟩ = some (.int .i64 z))
    (first | exact cur | exact arr_drew cur | exact arr_alloc cur | exact arr_drew (arr_alloc cur) | exact arr_drew (arr_alloc (arr_alloc cur)) | go_keep)
    (first
      | (go_at_call 21
         have hq := J1
         clear hq
         refine (joinT2 4 _ _ _ _ _ _ J1 AC (by first | omega | (simp only [Tm.size]; omega))).mono ?_
         rintro e wn ⟨vj, rfl, J2, hE⟩
         obtain ⟨ajJ2, mjJ2, cjJ2, rfl⟩ := J2.val
         replace A0 := A0.ext hE
         replace AC := AC.ext hE
         replace J1 := J1.ext hE
         replace TB := TB.ext hE
         replace cur := arr_later hE cur
         replace EE := EE.trans hE
         clear hE)
      | (go_at_call 21
         refine (joinD2 3 _ _ _ _ _ _ A0 AC (by first | omega | (simp only [Tm.size]; omega))).mono ?_
         rintro e wn ⟨vj, rfl, J1, hE⟩
         obtain ⟨ajJ1, mjJ1, cjJ1, rfl⟩ := J1.val
         replace A0 := A0.ext hE
         replace AC := AC.ext hE
         replace TB := TB.ext hE
         replace cur := arr_later hE cur
         replace EE := EE.trans hE
         clear hE)
      | (go_at_call 25
         refine (HENV.out _).mono ?_
         rintro e wn ⟨ve, rfl, VE, hE⟩
         replace A0 := A0.ext hE
         replace AC := AC.ext hE
         replace J1 := J1.ext hE
         replace J2 := J2.ext hE
         replace TB := TB.ext hE
         replace cur := arr_later hE cur
         replace EE := EE.trans hE
         clear hE)
      | (go_at_call 24
         refine (eval_ok _ _ _ _ _ J2 VE TB (FSU.out) (by omega) hlen HSM.out).mono ?_
         rintro e wn ⟨rfl, hE⟩
         replace A0 := A0.ext hE
         replace AC := AC.ext hE
         replace TB := TB.ext hE
         replace cur := arr_later hE cur
         replace EE := EE.trans hE
         clear hE
         clear VE J1 J2))
  go_wp2_with fail
  have hE := Below.drew (Ext.refl wn)
  replace A0 := A0.ext hE
  replace AC := AC.ext hE
  replace TB := TB.ext hE
  replace cur := arr_later hE cur
  replace EE := EE.trans hE
  clear hE
  go_region_held3 (fun w' => w'.cell? ⟨W.heap.size, 0, none⟩ = some (.int .i64 x) ∧ w'.cell? ⟨W.heap.size, 1, none⟩ = some (.int .i64 y) ∧ w'.cell? ⟨W.heap.size, 2, none⟩ = some (.int .i64 z))
    (first | exact cur | exact arr_drew cur | exact arr_alloc cur | exact arr_drew (arr_alloc cur) | exact arr_drew (arr_alloc (arr_alloc cur)) | go_keep)
    (first
      | (go_at_call 21
         refine (joinT2 5 _ _ _ _ _ _ AN A0 (by first | omega | (simp only [Tm.size]; omega))).mono ?_
         rintro e wn ⟨vj, rfl, J1, hE⟩
         obtain ⟨ajJ1, mjJ1, cjJ1, rfl⟩ := J1.val
         replace A0 := A0.ext hE
         replace AC := AC.ext hE
         replace AN := AN.ext hE
         replace TB := TB.ext hE
         replace cur := arr_later hE cur
         replace EE := EE.trans hE
         clear hE)
      | (go_at_call 26
         refine (num_any 1 _).mono ?_
         rintro e wn ⟨vj, rfl, AN, hE⟩
         obtain ⟨ann, mnn, cnn, rfl⟩ := AN.val
         replace A0 := A0.ext hE
         replace AC := AC.ext hE
         replace TB := TB.ext hE
         replace cur := arr_later hE cur
         replace EE := EE.trans hE
         clear hE)
      | (go_at_call 25
         refine (HENV.out _).mono ?_
         rintro e wn ⟨ve, rfl, VE, hE⟩
         replace A0 := A0.ext hE
         replace AC := AC.ext hE
         replace AN := AN.ext hE
         replace J1 := J1.ext hE
         replace TB := TB.ext hE
         replace cur := arr_later hE cur
         replace EE := EE.trans hE
         clear hE)
      | (go_at_call 24
         refine (eval_ok _ _ _ _ _ J1 VE TB (FMU.out) (by omega) hlen HSM.out).mono ?_
         rintro e wn ⟨rfl, hE⟩
         replace A0 := A0.ext hE
         replace AC := AC.ext hE
         replace TB := TB.ext hE
         replace cur := arr_later hE cur
         replace EE := EE.trans hE
         clear hE
         clear VE J1))
  go_wp2_with fail
  have hE := Below.drew (Ext.refl wn)
  replace A0 := A0.ext hE
  replace AC := AC.ext hE
  replace TB := TB.ext hE
  replace cur := arr_later hE cur
  replace EE := EE.trans hE
  clear hE
  go_region_held3 (fun w' => w'.cell? ⟨W.heap.size, 0, none⟩ = some (.int .i64 x) ∧ w'.cell? ⟨W.heap.size, 1, none⟩ = some (.int .i64 y) ∧ w'.cell? ⟨W.heap.size, 2, none⟩ = some (.int .i64 z))
    (first | exact cur | exact arr_drew cur | exact arr_alloc cur | exact arr_drew (arr_alloc cur) | exact arr_drew (arr_alloc (arr_alloc cur)) | go_keep)
    (first
      | (go_at_call 21
         refine (joinT2 5 _ _ _ _ _ _ A0 AN (by first | omega | (simp only [Tm.size]; omega))).mono ?_
         rintro e wn ⟨vj, rfl, J1, hE⟩
         obtain ⟨ajJ1, mjJ1, cjJ1, rfl⟩ := J1.val
         replace A0 := A0.ext hE
         replace AC := AC.ext hE
         replace AN := AN.ext hE
         replace TB := TB.ext hE
         replace cur := arr_later hE cur
         replace EE := EE.trans hE
         clear hE)
      | (go_at_call 26
         refine (num_any 0 _).mono ?_
         rintro e wn ⟨vj, rfl, AN, hE⟩
         obtain ⟨ann, mnn, cnn, rfl⟩ := AN.val
         replace A0 := A0.ext hE
         replace AC := AC.ext hE
         replace TB := TB.ext hE
         replace cur := arr_later hE cur
         replace EE := EE.trans hE
         clear hE)
      | (go_at_call 25
         refine (HENV.out _).mono ?_
         rintro e wn ⟨ve, rfl, VE, hE⟩
         replace A0 := A0.ext hE
         replace AC := AC.ext hE
         replace AN := AN.ext hE
         replace J1 := J1.ext hE
         replace TB := TB.ext hE
         replace cur := arr_later hE cur
         replace EE := EE.trans hE
         clear hE)
      | (go_at_call 24
         refine (eval_ok _ _ _ _ _ J1 VE TB (FZE.out) (by omega) hlen HSM.out).mono ?_
         rintro e wn ⟨rfl, hE⟩
         replace A0 := A0.ext hE
         replace AC := AC.ext hE
         replace TB := TB.ext hE
         replace cur := arr_later hE cur
         replace EE := EE.trans hE
         clear hE
         clear VE J1))
  go_wp2_with fail
  refine (eval_t _ _ _ [] _ AC (Reads.nil _ _) TB (sub_lit c 0 hc1 hc2) (by simp [Tm.size]) (by simp) (by simp)).mono ?_
  rw [show evalT [] (Tm.n0 1 c) = some c from over_of (by unfold Small; show -1000000 ≤ c ∧ c ≤ 1000000; omega)]
  rintro e wn ⟨hE, rfl⟩
  replace A0 := A0.ext hE
  replace AC := AC.ext hE
  replace TB := TB.ext hE
  replace cur := arr_later hE cur
  replace EE := EE.trans hE
  clear hE
  go_wp2_with fail
  refine (picked_any kk 2001 _ (by omega) (by omega) (by omega) (by omega)).mono ?_
  rintro e wq ⟨rfl, rfl⟩
  have hcc := HCC.out
  have hpb : pk kk 2001 = c + 1000 := by omega
  rw [hpb]
  go_wp2
  go_ret
  exact ⟨rfl, EE⟩

end Go.Proofs.YtjjamfbjapbkgaaDoor
