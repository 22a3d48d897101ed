/- The law EvalTruth. -/
import Derived.Test.YtjjamfbjapbkgaaDoorEvalL
namespace Go.Proofs.YtjjamfbjapbkgaaDoor
open Go.RowKit

set_option maxRecDepth 100000 in
set_option maxHeartbeats 8000000 in
theorem evalTruth_law (v0 : Value) (cs1 : Array Value) (W : World) (ht : Tab W) (h0 : Cells Tryd.prog W 22 [v0]) (h1 : Cells Tryd.prog W 45 cs1.toList) :
    Calls Tryd.prog 8 #[v0, .agg cs1] W fun e w' => e = .returned (.bool true) ∧ Ext W w' := by
  obtain ⟨raw0, o0, hraw0⟩ := raw_of h0
  obtain ⟨x, y, z, rfl, hx, hy, hz⟩ := arr3 h1
  have EE : Ext W (W.alloc (Obj.cells #[.int .i64 x, .int .i64 y, .int .i64 z] 45)) := (Ext.refl W).alloc (Nat.le_refl _) _
  have cur : (W.alloc (Obj.cells #[.int .i64 x, .int .i64 y, .int .i64 z] 45)).cell? ⟨W.heap.size, 0, none⟩ = some (.int .i64 x) ∧ (W.alloc (Obj.cells #[.int .i64 x, .int .i64 y, .int .i64 z] 45)).cell? ⟨W.heap.size, 1, none⟩ = some (.int .i64 y) ∧ (W.alloc (Obj.cells #[.int .i64 x, .int .i64 y, .int .i64 z] 45)).cell? ⟨W.heap.size, 2, none⟩ = some (.int .i64 z) := by simp [go_sem]
  have TB := ht.ext EE
  have HENV : Hid (∀ w : World, Calls Tryd.prog 25 #[.agg #[.int .i64 x, .int .i64 y, .int .i64 z]] w fun e w' => ∃ v', e = .returned v' ∧ Ints w' v' (envL x y z) ∧ Ext w w') := Lib.hid fun w => env_any x y z w hx hy hz
  have hlen : (envL x y z).length = 3 := rfl
  have HSM := Lib.hid (env_small x y z)
  obtain ⟨n0, X0, hn0⟩ := ex_tru raw0 x y z
  have M0 := fun w => mkTruth v0 raw0 3 w
  replace o0 := ops_ext o0 EE
  generalize envL x y z = env at *
  generalize truO raw0 3 = t0 at *
  have FX0 := Lib.hid X0
  have hs0 := X0.size
  have MM0 := Lib.hid M0
  have N0 := Lib.hid hn0
  clear X0 M0 hn0
  have hz : ∃ b : Int, 1 - n0 = b ∧ Small b ∧ ((n0 = 0 ∧ b = 1) ∨ (n0 = 1 ∧ b = 0)) := ⟨_, rfl, by have := N0.out; unfold Small; omega, by have := N0.out; omega⟩
  obtain ⟨b, hb, hbs, hc⟩ := hz
  have HB := Lib.hid hb
  have HS := Lib.hid hbs
  have HC := Lib.hid hc
  clear hb hbs hc
  clear ht h0 h1 hx hy hz
  go_enter Tryd.func8, Tryd.ntmps8
  go_wp2_with fail
  generalize W.alloc (Obj.cells #[.int .i64 x, .int .i64 y, .int .i64 z] 45) = w0 at *
  skip
  refine (MM0.out _ o0 hraw0 (by omega)).mono ?_
  rintro e wn ⟨u0, rfl, hown, hE⟩
  have A0 := isT_own hown
  obtain ⟨a0, m0, c0, rfl⟩ := A0.val
  clear hown o0
  replace TB := TB.ext hE
  replace cur := arr_later hE cur
  replace EE := EE.trans hE
  clear hE
  go_wp2_with fail
  refine (check_one true _ t0 3 _ 26 true A0 TB (by omega) (by omega) FX0.out.fit (by omega) rfl).mono ?_
  rintro e wn ⟨rfl, hE⟩
  replace A0 := A0.ext hE
  replace TB := TB.ext hE
  replace cur := arr_later hE cur
  replace EE := EE.trans hE
  clear hE
  have q0 := cur.1
  have q1 := cur.2.1
  have q2 := cur.2.2
  go_wp2_with fail
  clear q0 q1 q2
  refine (HENV.out _).mono ?_
  rintro e wn ⟨ve, rfl, VE, hE⟩
  replace A0 := A0.ext hE
  replace TB := TB.ext hE
  replace cur := arr_later hE cur
  replace EE := EE.trans hE
  clear hE
  go_wp2_with fail
  refine (eval_ok _ _ _ _ _ A0 VE TB (FX0.out) (by omega) hlen HSM.out).mono ?_
  rintro e wn ⟨rfl, hE⟩
  replace A0 := A0.ext hE
  replace TB := TB.ext hE
  replace cur := arr_later hE cur
  replace EE := EE.trans hE
  clear hE
  clear VE
  go_wp2_with fail
  go_region_held3 (fun w' => w'.cell? ⟨W.heap.size, 0, none⟩ = some (.int .i64 x) ∧ w'.cell? ⟨W.heap.size, 1, none⟩ = some (.int .i64 y) ∧ w'.cell? ⟨W.heap.size, 2, none⟩ = some (.int .i64 z))
    (first | exact cur | exact arr_drew cur | exact arr_alloc cur | exact arr_drew (arr_alloc cur) | exact arr_drew (arr_alloc (arr_alloc cur)) | go_keep)
    (first
      | (go_at_call 21
         refine (joinD1 10 _ _ _ _ A0 (by first | omega | (simp only [Tm.size]; omega))).mono ?_
         rintro e wn ⟨vj, rfl, J1, hE⟩
         obtain ⟨ajJ1, mjJ1, cjJ1, rfl⟩ := J1.val
         replace A0 := A0.ext hE
         replace TB := TB.ext hE
         replace cur := arr_later hE cur
         replace EE := EE.trans hE
         clear hE)
      | (go_at_call 25
         refine (HENV.out _).mono ?_
         rintro e wn ⟨ve, rfl, VE, hE⟩
         replace A0 := A0.ext hE
         replace J1 := J1.ext hE
         replace TB := TB.ext hE
         replace cur := arr_later hE cur
         replace EE := EE.trans hE
         clear hE)
      | (go_at_call 24
         refine (eval_ok _ _ _ _ _ J1 VE TB (FX0.out.not' 30 (by omega) b HB.out HS.out) (by omega) hlen HSM.out).mono ?_
         rintro e wn ⟨rfl, hE⟩
         replace A0 := A0.ext hE
         replace TB := TB.ext hE
         replace cur := arr_later hE cur
         replace EE := EE.trans hE
         clear hE
         clear VE J1))
  rcases HC.out with ⟨rfl, rfl⟩ | ⟨rfl, rfl⟩
  all_goals
    go_wp2
    go_ret
    exact ⟨rfl, EE⟩

end Go.Proofs.YtjjamfbjapbkgaaDoor
