/- The law EvalOver. -/
import Derived.Test.YtjjamfbjapbkgaaDoorEvalL
namespace Go.Proofs.YtjjamfbjapbkgaaDoor
open Go.RowKit

set_option maxRecDepth 100000 in
set_option maxHeartbeats 8000000 in
theorem evalOver_law (v0 : Value) (cs1 : Array Value) (W : World) (ht : Tab W) (h0 : Cells Tryd.prog W 22 [v0]) (h1 : Cells Tryd.prog W 45 cs1.toList) :
    Calls Tryd.prog 11 #[v0, .agg cs1] W fun e w' => e = .returned (.bool true) ∧ Ext W w' := by
  obtain ⟨raw0, o0, hraw0⟩ := raw_of h0
  obtain ⟨x, y, z, rfl, hx, hy, hz⟩ := arr3 h1
  have EE : Ext W (W.alloc (Obj.cells #[.int .i64 x, .int .i64 y, .int .i64 z] 45)) := (Ext.refl W).alloc (Nat.le_refl _) _
  have cur : (W.alloc (Obj.cells #[.int .i64 x, .int .i64 y, .int .i64 z] 45)).cell? ⟨W.heap.size, 0, none⟩ = some (.int .i64 x) ∧ (W.alloc (Obj.cells #[.int .i64 x, .int .i64 y, .int .i64 z] 45)).cell? ⟨W.heap.size, 1, none⟩ = some (.int .i64 y) ∧ (W.alloc (Obj.cells #[.int .i64 x, .int .i64 y, .int .i64 z] 45)).cell? ⟨W.heap.size, 2, none⟩ = some (.int .i64 z) := by simp [go_sem]
  have TB := ht.ext EE
  have HENV : Hid (∀ w : World, Calls Tryd.prog 25 #[.agg #[.int .i64 x, .int .i64 y, .int .i64 z]] w fun e w' => ∃ v', e = .returned v' ∧ Ints w' v' (envL x y z) ∧ Ext w w') := Lib.hid fun w => env_any x y z w hx hy hz
  have hlen : (envL x y z).length = 3 := rfl
  have HSM := Lib.hid (env_small x y z)
  obtain ⟨n0, X0, hn0⟩ := ex_tru raw0 x y z
  have M0 := fun w => mkTruth v0 raw0 3 w
  replace o0 := ops_ext o0 EE
  generalize envL x y z = env at *
  generalize truO raw0 3 = t0 at *
  have FX0 := Lib.hid X0
  have hs0 := X0.size
  have MM0 := Lib.hid M0
  have N0 := Lib.hid hn0
  clear X0 M0 hn0
  have L1 := Lib.hid (ex_lit env 1000 (by omega) (by omega))
  have L2 := Lib.hid (ex_lit env 2 (by omega) (by omega))
  have L3 := Lib.hid (Ex.two' L1.out L1.out 5 (by omega) rfl rfl 3 (by omega) false rfl 1000000 rfl (by decide))
  have L4 := Lib.hid (Ex.any L3.out L2.out 5 (by omega) rfl rfl 5 (by omega) none rfl)
  have L5 := Lib.hid (Ex.bad L4.out L4.out (.inl rfl) 7 (by omega) rfl rfl 11 (by omega) true rfl)
  have L6 := Lib.hid (Ex.bad FX0.out L5.out (.inr rfl) 9 (by omega) rfl rfl 38 (by omega) true rfl)
  have L7 := Lib.hid (Ex.bad L5.out FX0.out (.inl rfl) 9 (by omega) rfl rfl 38 (by omega) true rfl)
  clear ht h0 h1 hx hy hz
  go_enter Tryd.func11, Tryd.ntmps11
  go_wp2_with fail
  generalize W.alloc (Obj.cells #[.int .i64 x, .int .i64 y, .int .i64 z] 45) = w0 at *
  skip
  refine (MM0.out _ o0 hraw0 (by omega)).mono ?_
  rintro e wn ⟨u0, rfl, hown, hE⟩
  have A0 := isT_own hown
  obtain ⟨a0, m0, c0, rfl⟩ := A0.val
  clear hown o0
  replace TB := TB.ext hE
  replace cur := arr_later hE cur
  replace EE := EE.trans hE
  clear hE
  go_wp2_with fail
  have hE := (((Ext.refl wn).alloc (Nat.le_refl _) (Obj.cells #[.int .i64 1, .int .i64 1000] 32)).alloc (by simp) (Obj.cells #[.int .i64 1, .int .i64 1000] 32))
  have B1 := (lit_at wn 32 1000 _ rfl).ext ((Ext.refl _).alloc (Nat.le_refl _) (Obj.cells #[.int .i64 1, .int .i64 1000] 32))
  have B2 := lit_at (wn.alloc (Obj.cells #[.int .i64 1, .int .i64 1000] 32)) 32 1000 (wn.heap.size + 1) (by simp)
  replace A0 := A0.ext hE
  replace TB := TB.ext hE
  replace cur := arr_later hE cur
  replace EE := EE.trans hE
  clear hE
  refine (joinK2 5 _ _ _ _ _ _ _ (by simp) B1 B2 (by simp [Tm.size])).mono ?_
  clear B1 B2
  rintro e wn ⟨vj, rfl, K1, hE⟩
  obtain ⟨ak1, mk1, ck1, rfl⟩ := K1.val
  replace A0 := A0.ext hE
  replace TB := TB.ext hE
  replace cur := arr_later hE cur
  replace EE := EE.trans hE
  clear hE
  go_wp2_with fail
  have hE := (Ext.refl wn).alloc (Nat.le_refl _) (Obj.cells #[.int .i64 1, .int .i64 2] 32)
  have B2 := lit_at wn 32 2 wn.heap.size rfl
  replace K1 := K1.ext hE
  replace A0 := A0.ext hE
  replace TB := TB.ext hE
  replace cur := arr_later hE cur
  replace EE := EE.trans hE
  clear hE
  refine (joinK2 5 _ _ _ _ _ _ _ (by simp) K1 B2 (by simp [Tm.size])).mono ?_
  clear B2 K1
  rintro e wn ⟨vj, rfl, A9, hE⟩
  obtain ⟨a9, m9, c9, rfl⟩ := A9.val
  have hs9 := L4.out.size
  replace A0 := A0.ext hE
  replace TB := TB.ext hE
  replace cur := arr_later hE cur
  replace EE := EE.trans hE
  clear hE
  generalize Tm.n2 5 0 (Tm.n2 5 0 (Tm.n0 1 1000) (Tm.n0 1 1000)) (Tm.n0 1 2) = t9 at *
  go_wp2_with fail
  go_region_held3 (fun w' => w'.cell? ⟨W.heap.size, 0, none⟩ = some (.int .i64 x) ∧ w'.cell? ⟨W.heap.size, 1, none⟩ = some (.int .i64 y) ∧ w'.cell? ⟨W.heap.size, 2, none⟩ = some (.int .i64 z))
    (first | exact cur | exact arr_drew cur | exact arr_alloc cur | exact arr_drew (arr_alloc cur) | exact arr_drew (arr_alloc (arr_alloc cur)) | go_keep)
    (first
      | (go_at_call 21
         have hq := J1
         clear hq
         refine (joinT2 9 _ _ _ _ _ _ A0 J1 (by first | omega | (simp only [Tm.size]; omega))).mono ?_
         rintro e wn ⟨vj, rfl, J2, hE⟩
         obtain ⟨ajJ2, mjJ2, cjJ2, rfl⟩ := J2.val
         replace A0 := A0.ext hE
         replace A9 := A9.ext hE
         replace J1 := J1.ext hE
         replace TB := TB.ext hE
         replace cur := arr_later hE cur
         replace EE := EE.trans hE
         clear hE)
      | (go_at_call 21
         refine (joinD2 7 _ _ _ _ _ _ A9 A9 (by first | omega | (simp only [Tm.size]; omega))).mono ?_
         rintro e wn ⟨vj, rfl, J1, hE⟩
         obtain ⟨ajJ1, mjJ1, cjJ1, rfl⟩ := J1.val
         replace A0 := A0.ext hE
         replace A9 := A9.ext hE
         replace TB := TB.ext hE
         replace cur := arr_later hE cur
         replace EE := EE.trans hE
         clear hE)
      | (go_at_call 25
         refine (HENV.out _).mono ?_
         rintro e wn ⟨ve, rfl, VE, hE⟩
         replace A0 := A0.ext hE
         replace A9 := A9.ext hE
         replace J1 := J1.ext hE
         replace J2 := J2.ext hE
         replace TB := TB.ext hE
         replace cur := arr_later hE cur
         replace EE := EE.trans hE
         clear hE)
      | (go_at_call 24
         refine (eval_bad _ _ _ _ _ J2 VE TB (L6.out) (by omega) hlen HSM.out).mono ?_
         rintro e wn ⟨rfl, hE⟩
         replace A0 := A0.ext hE
         replace A9 := A9.ext hE
         replace TB := TB.ext hE
         replace cur := arr_later hE cur
         replace EE := EE.trans hE
         clear hE
         clear VE J1 J2))
  go_wp2_with fail
  go_region_held3 (fun w' => w'.cell? ⟨W.heap.size, 0, none⟩ = some (.int .i64 x) ∧ w'.cell? ⟨W.heap.size, 1, none⟩ = some (.int .i64 y) ∧ w'.cell? ⟨W.heap.size, 2, none⟩ = some (.int .i64 z))
    (first | exact cur | exact arr_drew cur | exact arr_alloc cur | exact arr_drew (arr_alloc cur) | exact arr_drew (arr_alloc (arr_alloc cur)) | go_keep)
    (first
      | (go_at_call 21
         have hq := J1
         clear hq
         refine (joinT2 9 _ _ _ _ _ _ J1 A0 (by first | omega | (simp only [Tm.size]; omega))).mono ?_
         rintro e wn ⟨vj, rfl, J2, hE⟩
         obtain ⟨ajJ2, mjJ2, cjJ2, rfl⟩ := J2.val
         replace A0 := A0.ext hE
         replace A9 := A9.ext hE
         replace J1 := J1.ext hE
         replace TB := TB.ext hE
         replace cur := arr_later hE cur
         replace EE := EE.trans hE
         clear hE)
      | (go_at_call 21
         refine (joinD2 7 _ _ _ _ _ _ A9 A9 (by first | omega | (simp only [Tm.size]; omega))).mono ?_
         rintro e wn ⟨vj, rfl, J1, hE⟩
         obtain ⟨ajJ1, mjJ1, cjJ1, rfl⟩ := J1.val
         replace A0 := A0.ext hE
         replace A9 := A9.ext hE
         replace TB := TB.ext hE
         replace cur := arr_later hE cur
         replace EE := EE.trans hE
         clear hE)
      | (go_at_call 25
         refine (HENV.out _).mono ?_
         rintro e wn ⟨ve, rfl, VE, hE⟩
         replace A0 := A0.ext hE
         replace A9 := A9.ext hE
         replace J1 := J1.ext hE
         replace J2 := J2.ext hE
         replace TB := TB.ext hE
         replace cur := arr_later hE cur
         replace EE := EE.trans hE
         clear hE)
      | (go_at_call 24
         refine (eval_bad _ _ _ _ _ J2 VE TB (L7.out) (by omega) hlen HSM.out).mono ?_
         rintro e wn ⟨rfl, hE⟩
         replace A0 := A0.ext hE
         replace A9 := A9.ext hE
         replace TB := TB.ext hE
         replace cur := arr_later hE cur
         replace EE := EE.trans hE
         clear hE
         clear VE J1 J2))
  have q0 := cur.1
  have q1 := cur.2.1
  have q2 := cur.2.2
  go_wp2_with fail
  clear q0 q1 q2
  refine (HENV.out _).mono ?_
  rintro e wn ⟨ve, rfl, VE, hE⟩
  replace A0 := A0.ext hE
  replace A9 := A9.ext hE
  replace TB := TB.ext hE
  replace cur := arr_later hE cur
  replace EE := EE.trans hE
  clear hE
  go_wp2_with fail
  refine (eval_ok _ _ _ _ _ A0 VE TB (FX0.out) (by omega) hlen HSM.out).mono ?_
  rintro e wn ⟨rfl, hE⟩
  replace A0 := A0.ext hE
  replace A9 := A9.ext hE
  replace TB := TB.ext hE
  replace cur := arr_later hE cur
  replace EE := EE.trans hE
  clear hE
  clear VE
  go_wp2
  go_ret
  exact ⟨rfl, EE⟩

end Go.Proofs.YtjjamfbjapbkgaaDoor
