/- The contracts of the closures of scc.Lasso. -/
import Derived.Test.YtbndjailimhbdaaWayA
import Derived.Test.YtbndjailimhbdaaBits
import Derived.Test.YtbndjailimhbdaaFairD
import Derived.Deep.QuietTactic
import Derived.BigQuiet
namespace Go.Proofs.Ytbndjailimhbdaa
open Go.RowKit

theorem Try.enterTrue (ar : Array Value) (w : World) : (callFunc 11 ar).run Try.prog w = .ok (.enter 11 ar) w := by kernel_rfl
theorem Try.enterHome (ar : Array Value) (w : World) : (callFunc 12 ar).run Try.prog w = .ok (.enter 12 ar) w := by kernel_rfl
theorem Try.enterIn (ar : Array Value) (w : World) : (callFunc 13 ar).run Try.prog w = .ok (.enter 13 ar) w := by kernel_rfl
theorem Try.enterBit (ar : Array Value) (w : World) : (callFunc 14 ar).run Try.prog w = .ok (.enter 14 ar) w := by kernel_rfl
theorem Try.enterLast (ar : Array Value) (w : World) : (callFunc 15 ar).run Try.prog w = .ok (.enter 15 ar) w := by kernel_rfl

theorem bit_shrG (c n : Nat) (hc : c < 64) : (bits .and .i64 ((c : Int) / 2 ^ n) 1 == 1) = c.testBit n := by
  have e : (c : Int) / 2 ^ n = ((c / 2 ^ n : Nat) : Int) := by push_cast; rfl
  have hle : c / 2 ^ n ≤ c := Nat.div_le_self _ _
  have h := i64_and_nat (c / 2 ^ n) 1 (by omega) (by omega)
  rw [e, show (1 : Int) = ((1 : Nat) : Int) from rfl, h, Nat.and_one_is_mod, Nat.testBit_eq_decide_div_mod_eq, Bool.eq_iff_iff, beq_iff_eq, decide_eq_true_eq]
  omega

theorem clo_true (i : Nat) (w : World) : Calls Try.prog 11 (#[.int .i64 (i : Int)] ++ #[]) w fun e w' => e = .returned (.bool true) ∧ Ext w w' := by
  show Calls Try.prog 11 #[.int .i64 (i : Int)] w _
  have HE := Lib.hid (Ext.refl w)
  go_enter Try.func11, Try.ntmps11
  go_wp2
  go_ret
  exact ⟨rfl, HE.out⟩
theorem clo_home (i m H : Nat) (w : World) (h : w.heap[H]? = some (.cells #[.int .i64 (m : Int)] 3 (0, 0))) :
    Calls Try.prog 12 (#[.int .i64 (i : Int)] ++ #[.pointer (some ⟨H, 0, none⟩)]) w fun e w' => e = .returned (.bool (i == m)) ∧ Ext w w' := by
  show Calls Try.prog 12 #[.int .i64 (i : Int), .pointer (some ⟨H, 0, none⟩)] w _
  have HE := Lib.hid (Ext.refl w)
  have c0 := blk_cell h (i := 0) rfl
  have HQ := Lib.hid (show ((i : Int) == (m : Int)) = (i == m) by rw [Bool.eq_iff_iff, beq_iff_eq, beq_iff_eq]; omega)
  clear h
  go_enter Try.func12, Try.ntmps12
  go_wp2
  go_ret
  exact ⟨congrArg (fun z => Ending.returned (.bool z)) HQ.out, HE.out⟩
theorem clo_last (i m H : Nat) (w : World) (h : w.heap[H]? = some (.cells #[.int .i64 (m : Int)] 3 (0, 0))) :
    Calls Try.prog 15 (#[.int .i64 (i : Int)] ++ #[.pointer (some ⟨H, 0, none⟩)]) w fun e w' => e = .returned (.bool (i == m)) ∧ Ext w w' := by
  show Calls Try.prog 15 #[.int .i64 (i : Int), .pointer (some ⟨H, 0, none⟩)] w _
  have HE := Lib.hid (Ext.refl w)
  have c0 := blk_cell h (i := 0) rfl
  have HQ := Lib.hid (show ((i : Int) == (m : Int)) = (i == m) by rw [Bool.eq_iff_iff, beq_iff_eq, beq_iff_eq]; omega)
  clear h
  go_enter Try.func15, Try.ntmps15
  go_wp2
  go_ret
  exact ⟨congrArg (fun z => Ending.returned (.bool z)) HQ.out, HE.out⟩
theorem clo_in (i m H PB D n : Nat) (pn : Nat → Nat) (w : World) (h : w.heap[H]? = some (.cells #[.int .i64 (m : Int)] 3 (0, 0))) (hp : w.heap[PB]? = some (.cells #[.slice (some ⟨D, 0, none⟩) n n] 23 (0, 0)))
    (hD : w.cell? ⟨D, i, none⟩ = some (.int .i64 (pn i : Int))) (hi : i < n) :
    Calls Try.prog 13 (#[.int .i64 (i : Int)] ++ #[.pointer (some ⟨PB, 0, none⟩), .pointer (some ⟨H, 0, none⟩)]) w fun e w' => e = .returned (.bool (pn i == m)) ∧ Ext w w' := by
  show Calls Try.prog 13 #[.int .i64 (i : Int), .pointer (some ⟨PB, 0, none⟩), .pointer (some ⟨H, 0, none⟩)] w _
  have c0 := blk_cell h (i := 0) rfl
  have c1 := blk_cell hp (i := 0) rfl
  have hiI : (i : Int) < (n : Int) := by omega
  have hi0 : (0 : Int) ≤ (i : Int) := by omega
  have HQ := Lib.hid (show ((pn i : Int) == (m : Int)) = (pn i == m) by rw [Bool.eq_iff_iff, beq_iff_eq, beq_iff_eq]; omega)
  have HE := Lib.hid fun k => below_drewN (Ext.refl w) k
  generalize pn i = p at *
  clear h hp
  go_enter Try.func13, Try.ntmps13
  go_wp2_with fail
  go_quiet (fail)
  go_wp2
  go_ret
  exact ⟨congrArg (fun z => Ending.returned (.bool z)) HQ.out, HE.out _⟩
theorem clo_bit (i b Z B n so : Nat) (g0 g1 g2 g4 : Value) (sets : List Int) (sb sc : Nat) (w : World) (hz : w.heap[Z]? = some (.cells #[g0, g1, g2, .slice (some ⟨sb, so, none⟩) n sc, g4] 28 (0, 0))) (hb : w.heap[B]? = some (.cells #[.int .i64 (b : Int)] 3 (0, 0)))
    (hs : w.cell? ⟨sb, so + i, none⟩ = some (.int .i64 (bitsN sets i : Int))) (hbs : bitsN sets i < 64) (hi : i < n) (hb6 : b < 6) :
    Calls Try.prog 14 (#[.int .i64 (i : Int)] ++ #[.pointer (some ⟨Z, 0, none⟩), .pointer (some ⟨B, 0, none⟩)]) w fun e w' => e = .returned (.bool ((bitsN sets i).testBit b)) ∧ Ext w w' := by
  show Calls Try.prog 14 #[.int .i64 (i : Int), .pointer (some ⟨Z, 0, none⟩), .pointer (some ⟨B, 0, none⟩)] w _
  have c3 := blk_cell hz (i := 3) rfl
  have c1 := blk_cell hb (i := 0) rfl
  have hiI : (i : Int) < (n : Int) := by omega
  have hi0 : (0 : Int) ≤ (i : Int) := by omega
  generalize bitsN sets i = v at *
  have HQ := Lib.hid (bit_shrG v b hbs)
  have HE := Lib.hid fun k => below_drewN (Ext.refl w) k
  have hv0 : (0 : Int) ≤ (v : Int) := by omega
  have hv1 : (v : Int) < 64 := by omega
  have hb0 : (0 : Int) ≤ (b : Int) := by omega
  have hb1 : (b : Int) < 6 := by omega
  clear hz hb
  go_enter Try.func14, Try.ntmps14
  go_wp2_with fail
  go_quiet (fail)
  go_wp2
  go_ret
  exact ⟨congrArg (fun z => Ending.returned (.bool z)) HQ.out, HE.out _⟩

end Go.Proofs.Ytbndjailimhbdaa
