/- The law EvalTurns. -/
import Derived.Test.YtjjamfbjapbkgaaDoorEvalL
namespace Go.Proofs.YtjjamfbjapbkgaaDoor
open Go.RowKit

/-- What a law of EvalTurns asks of the two values. -/
def TurnRel (k p q : Int) : Prop := (k = 4 → p = -q) ∧ (k = 7 → p = 0 ∨ q = 0) ∧ (k ≠ 4 → k ≠ 7 → p = q)

theorem tk_false (k : Int) (h1 : 3 ≤ k) (h2 : k ≤ 7) : false = tkK k := by unfold tkK; rw [eq_comm, decide_eq_false_iff_not]; omega

theorem small_neg (n : Int) : Small (-n) ↔ Small n := by unfold Small; omega

theorem turn_rel (k a b : Int) (h1 : 3 ≤ k) (h2 : k ≤ 7) : (over (opV k a b) = none ∧ over (opV k b a) = none) ∨ ∃ p q, over (opV k a b) = some p ∧ over (opV k b a) = some q ∧ TurnRel k p q ∧ Small p ∧ Small q := by
  have hs : Small (opV k a b) ↔ Small (opV k b a) := by
    have h : k = 3 ∨ k = 4 ∨ k = 5 ∨ k = 6 ∨ k = 7 := by omega
    rcases h with rfl | rfl | rfl | rfl | rfl
    · show Small (a + b) ↔ Small (b + a); rw [Int.add_comm]
    · show Small (a - b) ↔ Small (b - a); unfold Small; omega
    · show Small (a * b) ↔ Small (b * a); rw [Int.mul_comm]
    · have h1 := opV_01 6 a b (by omega)
      have h2 := opV_01 6 b a (by omega)
      unfold Small; omega
    · have h1 := opV_01 7 a b (by omega)
      have h2 := opV_01 7 b a (by omega)
      unfold Small; omega
  by_cases h : Small (opV k a b)
  · refine .inr ⟨_, _, over_of h, over_of (hs.1 h), ?_, h, hs.1 h⟩
    have hk : k = 3 ∨ k = 4 ∨ k = 5 ∨ k = 6 ∨ k = 7 := by omega
    refine ⟨fun e => ?_, fun e => ?_, fun e1 e2 => ?_⟩
    · subst e; show a - b = -(b - a); omega
    · subst e; show (if a < b then 1 else 0 : Int) = 0 ∨ (if b < a then 1 else 0 : Int) = 0; split <;> split <;> omega
    · rcases hk with rfl | rfl | rfl | rfl | rfl
      · show a + b = b + a; omega
      · omega
      · show a * b = b * a; rw [Int.mul_comm]
      · show (if a = b then 1 else 0 : Int) = (if b = a then 1 else 0 : Int); split <;> split <;> omega
      · omega
  · left; unfold over; rw [if_neg h, if_neg (fun g => h (hs.2 g))]; exact ⟨rfl, rfl⟩

set_option maxRecDepth 100000 in
set_option maxHeartbeats 8000000 in
theorem evalTurns_law (v0 v1 : Value) (cs2 : Array Value) (W : World) (ht : Tab W) (h0 : Cells Tryd.prog W 22 [v0]) (h1 : Cells Tryd.prog W 22 [v1]) (h2 : Cells Tryd.prog W 45 cs2.toList) :
    Calls Tryd.prog 9 #[v0, v1, .agg cs2] W fun e w' => e = .returned (.bool true) ∧ Ext W w' := by
  obtain ⟨raw0, o0, hraw0⟩ := raw_of h0
  obtain ⟨raw1, o1, hraw1⟩ := raw_of h1
  obtain ⟨x, y, z, rfl, hx, hy, hz⟩ := arr3 h2
  have EE : Ext W (W.alloc (Obj.cells #[.int .i64 x, .int .i64 y, .int .i64 z] 45)) := (Ext.refl W).alloc (Nat.le_refl _) _
  have cur : (W.alloc (Obj.cells #[.int .i64 x, .int .i64 y, .int .i64 z] 45)).cell? ⟨W.heap.size, 0, none⟩ = some (.int .i64 x) ∧ (W.alloc (Obj.cells #[.int .i64 x, .int .i64 y, .int .i64 z] 45)).cell? ⟨W.heap.size, 1, none⟩ = some (.int .i64 y) ∧ (W.alloc (Obj.cells #[.int .i64 x, .int .i64 y, .int .i64 z] 45)).cell? ⟨W.heap.size, 2, none⟩ = some (.int .i64 z) := by simp [go_sem]
  have TB := ht.ext EE
  have HENV : Hid (∀ w : World, Calls Tryd.prog 25 #[.agg #[.int .i64 x, .int .i64 y, .int .i64 z]] w fun e w' => ∃ v', e = .returned v' ∧ Ints w' v' (envL x y z) ∧ Ext w w') := Lib.hid fun w => env_any x y z w hx hy hz
  have hlen : (envL x y z).length = 3 := rfl
  have HSM := Lib.hid (env_small x y z)
  obtain ⟨n0, X0, hn0⟩ := ex_num raw0 x y z
  have M0 := fun w => mkNumber v0 raw0 3 w
  replace o0 := ops_ext o0 EE
  obtain ⟨n1, X1, hn1⟩ := ex_num raw1 x y z
  have M1 := fun w => mkNumber v1 raw1 3 w
  replace o1 := ops_ext o1 EE
  generalize envL x y z = env at *
  generalize numO raw0 3 = t0 at *
  generalize numO raw1 3 = t1 at *
  have FX0 := Lib.hid X0
  have hs0 := X0.size
  have MM0 := Lib.hid M0
  have N0 := Lib.hid hn0
  clear X0 M0 hn0
  have FX1 := Lib.hid X1
  have hs1 := X1.size
  have MM1 := Lib.hid M1
  have N1 := Lib.hid hn1
  clear X1 M1 hn1
  have FSA := Lib.hid (Ex.two' FX0.out FX0.out 4 (by omega) rfl rfl 15 (by omega) false rfl 0 (by show n0 - n0 = 0; omega) (by decide))
  have FEA := Lib.hid (Ex.two' FX0.out FX0.out 6 (by omega) rfl rfl 15 (by omega) true rfl 1 (by show (if n0 = n0 then 1 else 0 : Int) = 1; rw [if_pos rfl]) (by decide))
  have TR := Lib.hid (turn_rel · n0 n1)
  clear ht h0 h1 h2 hx hy hz
  go_enter Tryd.func9, Tryd.ntmps9
  go_wp2_with fail
  generalize W.alloc (Obj.cells #[.int .i64 x, .int .i64 y, .int .i64 z] 45) = w0 at *
  skip
  refine (MM0.out _ o0 hraw0 (by omega)).mono ?_
  rintro e wn ⟨u0, rfl, hown, hE⟩
  have A0 := isT_own hown
  obtain ⟨a0, m0, c0, rfl⟩ := A0.val
  clear hown o0
  replace o1 := ops_ext o1 hE
  replace TB := TB.ext hE
  replace cur := arr_later hE cur
  replace EE := EE.trans hE
  clear hE
  go_wp2_with fail
  refine (MM1.out _ o1 hraw1 (by omega)).mono ?_
  rintro e wn ⟨u1, rfl, hown, hE⟩
  have A1 := isT_own hown
  obtain ⟨a1, m1, c1, rfl⟩ := A1.val
  clear hown o1
  replace A0 := A0.ext hE
  replace TB := TB.ext hE
  replace cur := arr_later hE cur
  replace EE := EE.trans hE
  clear hE
  go_wp2_with fail
  have HA0 := Lib.hid A0
  have HA1 := Lib.hid A1
  have HTB := Lib.hid TB
  have HEE := Lib.hid EE
  have HCU := Lib.hid cur
  clear A0 A1 TB EE cur
  go_loopw [9] (fun v wr => ∃ k : Int, v = .int .i64 k ∧ 3 ≤ k ∧ k ≤ 8 ∧ Hid (Ext wn wr)) (fun v _ => (8 - intOf v).toNat)
  case atStart => exact ⟨3, rfl, by omega, by omega, Lib.hid (Ext.refl _)⟩
  case round =>
    obtain ⟨k, rfl, hk1, hk2, HX⟩ := hrel
    have A0 := HA0.out.ext HX.out
    have A1 := HA1.out.ext HX.out
    have TB := HTB.out.ext HX.out
    have EE := HEE.out.trans HX.out
    have cur := arr_later HX.out HCU.out
    have EX := HX.out
    clear HA0 HA1 HTB HEE HCU HX
    by_cases hk7 : k ≤ 7
    · rcases TR.out k hk1 hk7 with ⟨e1, e2⟩ | ⟨p, q, e1, e2, hrel, hsp, hsq⟩
      · skip
        have G1 := Lib.hid e1
        have G2 := Lib.hid e2
        clear e1 e2
        go_wp2_with fail
        go_region_held3 (fun w' => w'.cell? ⟨W.heap.size, 0, none⟩ = some (.int .i64 x) ∧ w'.cell? ⟨W.heap.size, 1, none⟩ = some (.int .i64 y) ∧ w'.cell? ⟨W.heap.size, 2, none⟩ = some (.int .i64 z))
          (first | exact cur | exact arr_drew cur | exact arr_alloc cur | exact arr_drew (arr_alloc cur) | exact arr_drew (arr_alloc (arr_alloc cur)) | go_keep)
          (first
            | (go_at_call 21
               refine (joinD2 k _ _ _ _ _ _ A0 A1 (by first | omega | (simp only [Tm.size]; omega))).mono ?_
               rintro e wn ⟨vj, rfl, J1, hE⟩
               obtain ⟨ajJ1, mjJ1, cjJ1, rfl⟩ := J1.val
               replace A0 := A0.ext hE
               replace A1 := A1.ext hE
               replace EX := EX.trans hE
               replace TB := TB.ext hE
               replace cur := arr_later hE cur
               replace EE := EE.trans hE
               clear hE)
            | (go_at_call 25
               refine (HENV.out _).mono ?_
               rintro e wn ⟨ve, rfl, VE, hE⟩
               replace A0 := A0.ext hE
               replace A1 := A1.ext hE
               replace EX := EX.trans hE
               replace J1 := J1.ext hE
               replace TB := TB.ext hE
               replace cur := arr_later hE cur
               replace EE := EE.trans hE
               clear hE)
            | (go_at_call 24
               refine (eval_bad _ _ _ _ _ J1 VE TB (Ex.any FX0.out FX1.out k (by omega) (tk_false k hk1 hk7) (tk_false k hk1 hk7) 15 (by omega) _ G1.out) (by omega) hlen HSM.out).mono ?_
               rintro e wn ⟨rfl, hE⟩
               replace A0 := A0.ext hE
               replace A1 := A1.ext hE
               replace EX := EX.trans hE
               replace TB := TB.ext hE
               replace cur := arr_later hE cur
               replace EE := EE.trans hE
               clear hE
               clear VE J1))
        go_wp2_with fail
        go_region_held3 (fun w' => w'.cell? ⟨W.heap.size, 0, none⟩ = some (.int .i64 x) ∧ w'.cell? ⟨W.heap.size, 1, none⟩ = some (.int .i64 y) ∧ w'.cell? ⟨W.heap.size, 2, none⟩ = some (.int .i64 z))
          (first | exact cur | exact arr_drew cur | exact arr_alloc cur | exact arr_drew (arr_alloc cur) | exact arr_drew (arr_alloc (arr_alloc cur)) | go_keep)
          (first
            | (go_at_call 21
               refine (joinD2 k _ _ _ _ _ _ A1 A0 (by first | omega | (simp only [Tm.size]; omega))).mono ?_
               rintro e wn ⟨vj, rfl, J1, hE⟩
               obtain ⟨ajJ1, mjJ1, cjJ1, rfl⟩ := J1.val
               replace A0 := A0.ext hE
               replace A1 := A1.ext hE
               replace EX := EX.trans hE
               replace TB := TB.ext hE
               replace cur := arr_later hE cur
               replace EE := EE.trans hE
               clear hE)
            | (go_at_call 25
               refine (HENV.out _).mono ?_
               rintro e wn ⟨ve, rfl, VE, hE⟩
               replace A0 := A0.ext hE
               replace A1 := A1.ext hE
               replace EX := EX.trans hE
               replace J1 := J1.ext hE
               replace TB := TB.ext hE
               replace cur := arr_later hE cur
               replace EE := EE.trans hE
               clear hE)
            | (go_at_call 24
               refine (eval_bad _ _ _ _ _ J1 VE TB (Ex.any FX1.out FX0.out k (by omega) (tk_false k hk1 hk7) (tk_false k hk1 hk7) 15 (by omega) _ G2.out) (by omega) hlen HSM.out).mono ?_
               rintro e wn ⟨rfl, hE⟩
               replace A0 := A0.ext hE
               replace A1 := A1.ext hE
               replace EX := EX.trans hE
               replace TB := TB.ext hE
               replace cur := arr_later hE cur
               replace EE := EE.trans hE
               clear hE
               clear VE J1))
        go_wp2_with fail
        go_roundw
        case rel => exact ⟨k + 1, by go_num, by omega, by omega, Lib.hid EX⟩
        case measure => simp [intOf]; omega
      · skip
        have G1 := Lib.hid e1
        have G2 := Lib.hid e2
        clear e1 e2
        have HR := Lib.hid hrel
        have HP := Lib.hid hsp
        have HQ := Lib.hid hsq
        clear hrel hsp hsq
        go_wp2_with fail
        go_region_held3 (fun w' => w'.cell? ⟨W.heap.size, 0, none⟩ = some (.int .i64 x) ∧ w'.cell? ⟨W.heap.size, 1, none⟩ = some (.int .i64 y) ∧ w'.cell? ⟨W.heap.size, 2, none⟩ = some (.int .i64 z))
          (first | exact cur | exact arr_drew cur | exact arr_alloc cur | exact arr_drew (arr_alloc cur) | exact arr_drew (arr_alloc (arr_alloc cur)) | go_keep)
          (first
            | (go_at_call 21
               refine (joinD2 k _ _ _ _ _ _ A0 A1 (by first | omega | (simp only [Tm.size]; omega))).mono ?_
               rintro e wn ⟨vj, rfl, J1, hE⟩
               obtain ⟨ajJ1, mjJ1, cjJ1, rfl⟩ := J1.val
               replace A0 := A0.ext hE
               replace A1 := A1.ext hE
               replace EX := EX.trans hE
               replace TB := TB.ext hE
               replace cur := arr_later hE cur
               replace EE := EE.trans hE
               clear hE)
            | (go_at_call 25
               refine (HENV.out _).mono ?_
               rintro e wn ⟨ve, rfl, VE, hE⟩
               replace A0 := A0.ext hE
               replace A1 := A1.ext hE
               replace EX := EX.trans hE
               replace J1 := J1.ext hE
               replace TB := TB.ext hE
               replace cur := arr_later hE cur
               replace EE := EE.trans hE
               clear hE)
            | (go_at_call 24
               refine (eval_ok _ _ _ _ _ J1 VE TB (Ex.any FX0.out FX1.out k (by omega) (tk_false k hk1 hk7) (tk_false k hk1 hk7) 15 (by omega) _ G1.out) (by omega) hlen HSM.out).mono ?_
               rintro e wn ⟨rfl, hE⟩
               replace A0 := A0.ext hE
               replace A1 := A1.ext hE
               replace EX := EX.trans hE
               replace TB := TB.ext hE
               replace cur := arr_later hE cur
               replace EE := EE.trans hE
               clear hE
               clear VE J1))
        go_wp2_with fail
        go_region_held3 (fun w' => w'.cell? ⟨W.heap.size, 0, none⟩ = some (.int .i64 x) ∧ w'.cell? ⟨W.heap.size, 1, none⟩ = some (.int .i64 y) ∧ w'.cell? ⟨W.heap.size, 2, none⟩ = some (.int .i64 z))
          (first | exact cur | exact arr_drew cur | exact arr_alloc cur | exact arr_drew (arr_alloc cur) | exact arr_drew (arr_alloc (arr_alloc cur)) | go_keep)
          (first
            | (go_at_call 21
               refine (joinD2 k _ _ _ _ _ _ A1 A0 (by first | omega | (simp only [Tm.size]; omega))).mono ?_
               rintro e wn ⟨vj, rfl, J1, hE⟩
               obtain ⟨ajJ1, mjJ1, cjJ1, rfl⟩ := J1.val
               replace A0 := A0.ext hE
               replace A1 := A1.ext hE
               replace EX := EX.trans hE
               replace TB := TB.ext hE
               replace cur := arr_later hE cur
               replace EE := EE.trans hE
               clear hE)
            | (go_at_call 25
               refine (HENV.out _).mono ?_
               rintro e wn ⟨ve, rfl, VE, hE⟩
               replace A0 := A0.ext hE
               replace A1 := A1.ext hE
               replace EX := EX.trans hE
               replace J1 := J1.ext hE
               replace TB := TB.ext hE
               replace cur := arr_later hE cur
               replace EE := EE.trans hE
               clear hE)
            | (go_at_call 24
               refine (eval_ok _ _ _ _ _ J1 VE TB (Ex.any FX1.out FX0.out k (by omega) (tk_false k hk1 hk7) (tk_false k hk1 hk7) 15 (by omega) _ G2.out) (by omega) hlen HSM.out).mono ?_
               rintro e wn ⟨rfl, hE⟩
               replace A0 := A0.ext hE
               replace A1 := A1.ext hE
               replace EX := EX.trans hE
               replace TB := TB.ext hE
               replace cur := arr_later hE cur
               replace EE := EE.trans hE
               clear hE
               clear VE J1))
        have hr := HR.out
        have hsp := HP.out
        have hsq := HQ.out
        unfold Small at hsp hsq
        unfold TurnRel at hr
        obtain ⟨r1, r2, r3⟩ := hr
        have hk : k = 3 ∨ k = 4 ∨ k = 5 ∨ k = 6 ∨ k = 7 := by omega
        clear hk1 hk2 hk7 HR HP HQ G1 G2
        rcases hk with rfl | rfl | rfl | rfl | rfl
        · have e := r3 (by omega) (by omega)
          clear r1 r2 r3
          subst e
          go_wp2_with fail
          go_roundw
          case rel => exact ⟨4, by go_num, by omega, by omega, Lib.hid EX⟩
          case measure => simp [intOf]
        · have e := r1 rfl
          clear r1 r2 r3
          subst e
          go_wp2_with fail
          go_roundw
          case rel => exact ⟨5, by go_num, by omega, by omega, Lib.hid EX⟩
          case measure => simp [intOf]
        · have e := r3 (by omega) (by omega)
          clear r1 r2 r3
          subst e
          go_wp2_with fail
          go_roundw
          case rel => exact ⟨6, by go_num, by omega, by omega, Lib.hid EX⟩
          case measure => simp [intOf]
        · have e := r3 (by omega) (by omega)
          clear r1 r2 r3
          subst e
          go_wp2_with fail
          go_roundw
          case rel => exact ⟨7, by go_num, by omega, by omega, Lib.hid EX⟩
          case measure => simp [intOf]
        · have e := r2 rfl
          clear r1 r2 r3
          rcases e with rfl | rfl
          all_goals
            go_wp2_with fail
            all_goals
              go_roundw
              case rel => exact ⟨8, by go_num, by omega, by omega, Lib.hid EX⟩
              case measure => simp [intOf]
    · obtain rfl : k = 8 := by omega
      clear hk1 hk2 hk7
      go_wp2_with fail
      go_region_held3 (fun w' => w'.cell? ⟨W.heap.size, 0, none⟩ = some (.int .i64 x) ∧ w'.cell? ⟨W.heap.size, 1, none⟩ = some (.int .i64 y) ∧ w'.cell? ⟨W.heap.size, 2, none⟩ = some (.int .i64 z))
        (first | exact cur | exact arr_drew cur | exact arr_alloc cur | exact arr_drew (arr_alloc cur) | exact arr_drew (arr_alloc (arr_alloc cur)) | go_keep)
        (first
          | (go_at_call 21
             refine (joinD2 4 _ _ _ _ _ _ A0 A0 (by first | omega | (simp only [Tm.size]; omega))).mono ?_
             rintro e wn ⟨vj, rfl, J1, hE⟩
             obtain ⟨ajJ1, mjJ1, cjJ1, rfl⟩ := J1.val
             replace A0 := A0.ext hE
             replace A1 := A1.ext hE
             replace EX := EX.trans hE
             replace TB := TB.ext hE
             replace cur := arr_later hE cur
             replace EE := EE.trans hE
             clear hE)
          | (go_at_call 25
             refine (HENV.out _).mono ?_
             rintro e wn ⟨ve, rfl, VE, hE⟩
             replace A0 := A0.ext hE
             replace A1 := A1.ext hE
             replace EX := EX.trans hE
             replace J1 := J1.ext hE
             replace TB := TB.ext hE
             replace cur := arr_later hE cur
             replace EE := EE.trans hE
             clear hE)
          | (go_at_call 24
             refine (eval_ok _ _ _ _ _ J1 VE TB (FSA.out) (by omega) hlen HSM.out).mono ?_
             rintro e wn ⟨rfl, hE⟩
             replace A0 := A0.ext hE
             replace A1 := A1.ext hE
             replace EX := EX.trans hE
             replace TB := TB.ext hE
             replace cur := arr_later hE cur
             replace EE := EE.trans hE
             clear hE
             clear VE J1))
      go_wp2_with fail
      go_region_held3 (fun w' => w'.cell? ⟨W.heap.size, 0, none⟩ = some (.int .i64 x) ∧ w'.cell? ⟨W.heap.size, 1, none⟩ = some (.int .i64 y) ∧ w'.cell? ⟨W.heap.size, 2, none⟩ = some (.int .i64 z))
        (first | exact cur | exact arr_drew cur | exact arr_alloc cur | exact arr_drew (arr_alloc cur) | exact arr_drew (arr_alloc (arr_alloc cur)) | go_keep)
        (first
          | (go_at_call 21
             refine (joinD2 6 _ _ _ _ _ _ A0 A0 (by first | omega | (simp only [Tm.size]; omega))).mono ?_
             rintro e wn ⟨vj, rfl, J1, hE⟩
             obtain ⟨ajJ1, mjJ1, cjJ1, rfl⟩ := J1.val
             replace A0 := A0.ext hE
             replace A1 := A1.ext hE
             replace EX := EX.trans hE
             replace TB := TB.ext hE
             replace cur := arr_later hE cur
             replace EE := EE.trans hE
             clear hE)
          | (go_at_call 25
             refine (HENV.out _).mono ?_
             rintro e wn ⟨ve, rfl, VE, hE⟩
             replace A0 := A0.ext hE
             replace A1 := A1.ext hE
             replace EX := EX.trans hE
             replace J1 := J1.ext hE
             replace TB := TB.ext hE
             replace cur := arr_later hE cur
             replace EE := EE.trans hE
             clear hE)
          | (go_at_call 24
             refine (eval_ok _ _ _ _ _ J1 VE TB (FEA.out) (by omega) hlen HSM.out).mono ?_
             rintro e wn ⟨rfl, hE⟩
             replace A0 := A0.ext hE
             replace A1 := A1.ext hE
             replace EX := EX.trans hE
             replace TB := TB.ext hE
             replace cur := arr_later hE cur
             replace EE := EE.trans hE
             clear hE
             clear VE J1))
      go_wp2
      go_ret
      exact ⟨rfl, EE⟩

end Go.Proofs.YtjjamfbjapbkgaaDoor
