/- The law EvalOrder. -/
import Derived.Test.YtjjamfbjapbkgaaDoorEvalL
namespace Go.Proofs.YtjjamfbjapbkgaaDoor
open Go.RowKit

set_option maxRecDepth 100000 in
set_option maxHeartbeats 8000000 in
theorem evalOrder_law (v0 v1 : Value) (cs2 : Array Value) (W : World) (ht : Tab W) (h0 : Cells Tryd.prog W 22 [v0]) (h1 : Cells Tryd.prog W 22 [v1]) (h2 : Cells Tryd.prog W 45 cs2.toList) :
    Calls Tryd.prog 13 #[v0, v1, .agg cs2] W fun e w' => e = .returned (.bool true) ∧ Ext W w' := by
  obtain ⟨raw0, o0, hraw0⟩ := raw_of h0
  obtain ⟨raw1, o1, hraw1⟩ := raw_of h1
  obtain ⟨x, y, z, rfl, hx, hy, hz⟩ := arr3 h2
  have EE : Ext W (W.alloc (Obj.cells #[.int .i64 x, .int .i64 y, .int .i64 z] 45)) := (Ext.refl W).alloc (Nat.le_refl _) _
  have cur : (W.alloc (Obj.cells #[.int .i64 x, .int .i64 y, .int .i64 z] 45)).cell? ⟨W.heap.size, 0, none⟩ = some (.int .i64 x) ∧ (W.alloc (Obj.cells #[.int .i64 x, .int .i64 y, .int .i64 z] 45)).cell? ⟨W.heap.size, 1, none⟩ = some (.int .i64 y) ∧ (W.alloc (Obj.cells #[.int .i64 x, .int .i64 y, .int .i64 z] 45)).cell? ⟨W.heap.size, 2, none⟩ = some (.int .i64 z) := by simp [go_sem]
  have TB := ht.ext EE
  have HENV : Hid (∀ w : World, Calls Tryd.prog 25 #[.agg #[.int .i64 x, .int .i64 y, .int .i64 z]] w fun e w' => ∃ v', e = .returned v' ∧ Ints w' v' (envL x y z) ∧ Ext w w') := Lib.hid fun w => env_any x y z w hx hy hz
  have hlen : (envL x y z).length = 3 := rfl
  have HSM := Lib.hid (env_small x y z)
  obtain ⟨n0, X0, hn0⟩ := ex_num raw0 x y z
  have M0 := fun w => mkNumber v0 raw0 3 w
  replace o0 := ops_ext o0 EE
  obtain ⟨n1, X1, hn1⟩ := ex_num raw1 x y z
  have M1 := fun w => mkNumber v1 raw1 3 w
  replace o1 := ops_ext o1 EE
  generalize envL x y z = env at *
  generalize numO raw0 3 = t0 at *
  generalize numO raw1 3 = t1 at *
  have FX0 := Lib.hid X0
  have hs0 := X0.size
  have MM0 := Lib.hid M0
  have N0 := Lib.hid hn0
  clear X0 M0 hn0
  have FX1 := Lib.hid X1
  have hs1 := X1.size
  have MM1 := Lib.hid M1
  have N1 := Lib.hid hn1
  clear X1 M1 hn1
  obtain ⟨p, q, r, hp, hq, hr, hpqr⟩ : ∃ p q r : Int, opV 7 n0 n1 = p ∧ opV 7 n1 n0 = q ∧ opV 6 n0 n1 = r ∧ ((p = 1 ∧ q = 0 ∧ r = 0) ∨ (p = 0 ∧ q = 1 ∧ r = 0) ∨ (p = 0 ∧ q = 0 ∧ r = 1)) := by
    refine ⟨_, _, _, rfl, rfl, rfl, ?_⟩
    show (((if n0 < n1 then 1 else 0 : Int) = 1) ∧ ((if n1 < n0 then 1 else 0 : Int) = 0) ∧ ((if n0 = n1 then 1 else 0 : Int) = 0)) ∨ (((if n0 < n1 then 1 else 0 : Int) = 0) ∧ ((if n1 < n0 then 1 else 0 : Int) = 1) ∧ ((if n0 = n1 then 1 else 0 : Int) = 0)) ∨ (((if n0 < n1 then 1 else 0 : Int) = 0) ∧ ((if n1 < n0 then 1 else 0 : Int) = 0) ∧ ((if n0 = n1 then 1 else 0 : Int) = 1))
    split <;> split <;> split <;> omega
  have P := Lib.hid hp
  have Q := Lib.hid hq
  have R := Lib.hid hr
  clear hp hq hr
  have hsm : Small p ∧ Small q ∧ Small r := by unfold Small; omega
  have HP := Lib.hid hpqr
  have HS := Lib.hid hsm
  clear hpqr hsm
  clear ht h0 h1 h2 hx hy hz
  go_enter Tryd.func13, Tryd.ntmps13
  go_wp2_with fail
  generalize W.alloc (Obj.cells #[.int .i64 x, .int .i64 y, .int .i64 z] 45) = w0 at *
  skip
  refine (MM0.out _ o0 hraw0 (by omega)).mono ?_
  rintro e wn ⟨u0, rfl, hown, hE⟩
  have A0 := isT_own hown
  obtain ⟨a0, m0, c0, rfl⟩ := A0.val
  clear hown o0
  replace o1 := ops_ext o1 hE
  replace TB := TB.ext hE
  replace cur := arr_later hE cur
  replace EE := EE.trans hE
  clear hE
  go_wp2_with fail
  refine (MM1.out _ o1 hraw1 (by omega)).mono ?_
  rintro e wn ⟨u1, rfl, hown, hE⟩
  have A1 := isT_own hown
  obtain ⟨a1, m1, c1, rfl⟩ := A1.val
  clear hown o1
  replace A0 := A0.ext hE
  replace TB := TB.ext hE
  replace cur := arr_later hE cur
  replace EE := EE.trans hE
  clear hE
  go_wp2_with fail
  go_region_held3 (fun w' => w'.cell? ⟨W.heap.size, 0, none⟩ = some (.int .i64 x) ∧ w'.cell? ⟨W.heap.size, 1, none⟩ = some (.int .i64 y) ∧ w'.cell? ⟨W.heap.size, 2, none⟩ = some (.int .i64 z))
    (first | exact cur | exact arr_drew cur | exact arr_alloc cur | exact arr_drew (arr_alloc cur) | go_keep)
    (first
      | (go_at_call 21
         refine (joinD2 7 _ _ _ _ _ _ A0 A1 (by first | omega | (simp only [Tm.size]; omega))).mono ?_
         rintro e wn ⟨vj, rfl, J1, hE⟩
         obtain ⟨ajJ1, mjJ1, cjJ1, rfl⟩ := J1.val
         replace A0 := A0.ext hE
         replace A1 := A1.ext hE
         replace TB := TB.ext hE
         replace cur := arr_later hE cur
         replace EE := EE.trans hE
         clear hE)
      | (go_at_call 25
         refine (HENV.out _).mono ?_
         rintro e wn ⟨ve, rfl, VE, hE⟩
         replace A0 := A0.ext hE
         replace A1 := A1.ext hE
         replace J1 := J1.ext hE
         replace TB := TB.ext hE
         replace cur := arr_later hE cur
         replace EE := EE.trans hE
         clear hE)
      | (go_at_call 24
         refine (eval_ok _ _ _ _ _ J1 VE TB (Ex.two' FX0.out FX1.out 7 (by omega) rfl rfl 20 (by omega) true rfl _ P.out HS.out.1) (by omega) hlen HSM.out).mono ?_
         rintro e wn ⟨rfl, hE⟩
         replace A0 := A0.ext hE
         replace A1 := A1.ext hE
         replace TB := TB.ext hE
         replace cur := arr_later hE cur
         replace EE := EE.trans hE
         clear hE
         clear VE J1))
  go_wp2_with fail
  go_region_held3 (fun w' => w'.cell? ⟨W.heap.size, 0, none⟩ = some (.int .i64 x) ∧ w'.cell? ⟨W.heap.size, 1, none⟩ = some (.int .i64 y) ∧ w'.cell? ⟨W.heap.size, 2, none⟩ = some (.int .i64 z))
    (first | exact cur | exact arr_drew cur | exact arr_alloc cur | exact arr_drew (arr_alloc cur) | go_keep)
    (first
      | (go_at_call 21
         refine (joinD2 7 _ _ _ _ _ _ A1 A0 (by first | omega | (simp only [Tm.size]; omega))).mono ?_
         rintro e wn ⟨vj, rfl, J2, hE⟩
         obtain ⟨ajJ2, mjJ2, cjJ2, rfl⟩ := J2.val
         replace A0 := A0.ext hE
         replace A1 := A1.ext hE
         replace TB := TB.ext hE
         replace cur := arr_later hE cur
         replace EE := EE.trans hE
         clear hE)
      | (go_at_call 25
         refine (HENV.out _).mono ?_
         rintro e wn ⟨ve, rfl, VE, hE⟩
         replace A0 := A0.ext hE
         replace A1 := A1.ext hE
         replace J2 := J2.ext hE
         replace TB := TB.ext hE
         replace cur := arr_later hE cur
         replace EE := EE.trans hE
         clear hE)
      | (go_at_call 24
         refine (eval_ok _ _ _ _ _ J2 VE TB (Ex.two' FX1.out FX0.out 7 (by omega) rfl rfl 20 (by omega) true rfl _ Q.out HS.out.2.1) (by omega) hlen HSM.out).mono ?_
         rintro e wn ⟨rfl, hE⟩
         replace A0 := A0.ext hE
         replace A1 := A1.ext hE
         replace TB := TB.ext hE
         replace cur := arr_later hE cur
         replace EE := EE.trans hE
         clear hE
         clear VE J2))
  go_wp2_with fail
  go_region_held3 (fun w' => w'.cell? ⟨W.heap.size, 0, none⟩ = some (.int .i64 x) ∧ w'.cell? ⟨W.heap.size, 1, none⟩ = some (.int .i64 y) ∧ w'.cell? ⟨W.heap.size, 2, none⟩ = some (.int .i64 z))
    (first | exact cur | exact arr_drew cur | exact arr_alloc cur | exact arr_drew (arr_alloc cur) | go_keep)
    (first
      | (go_at_call 21
         refine (joinD2 6 _ _ _ _ _ _ A0 A1 (by first | omega | (simp only [Tm.size]; omega))).mono ?_
         rintro e wn ⟨vj, rfl, J3, hE⟩
         obtain ⟨ajJ3, mjJ3, cjJ3, rfl⟩ := J3.val
         replace A0 := A0.ext hE
         replace A1 := A1.ext hE
         replace TB := TB.ext hE
         replace cur := arr_later hE cur
         replace EE := EE.trans hE
         clear hE)
      | (go_at_call 25
         refine (HENV.out _).mono ?_
         rintro e wn ⟨ve, rfl, VE, hE⟩
         replace A0 := A0.ext hE
         replace A1 := A1.ext hE
         replace J3 := J3.ext hE
         replace TB := TB.ext hE
         replace cur := arr_later hE cur
         replace EE := EE.trans hE
         clear hE)
      | (go_at_call 24
         refine (eval_ok _ _ _ _ _ J3 VE TB (Ex.two' FX0.out FX1.out 6 (by omega) rfl rfl 20 (by omega) true rfl _ R.out HS.out.2.2) (by omega) hlen HSM.out).mono ?_
         rintro e wn ⟨rfl, hE⟩
         replace A0 := A0.ext hE
         replace A1 := A1.ext hE
         replace TB := TB.ext hE
         replace cur := arr_later hE cur
         replace EE := EE.trans hE
         clear hE
         clear VE J3))
  rcases HP.out with ⟨rfl, rfl, rfl⟩ | ⟨rfl, rfl, rfl⟩ | ⟨rfl, rfl, rfl⟩
  all_goals
    go_wp2
    go_ret
    exact ⟨rfl, EE⟩

end Go.Proofs.YtjjamfbjapbkgaaDoor
