/- Several texts in one: Gen; GenA; GenB; GenC; GenD; RawT; Join; JoinG; ExpA; FormP. No condition. -/
import Derived.Test.YtfcaomejbcjfgaaDoorKz2
import Derived.Test.YtfcaomejbcjfgaaDoorKz1
namespace Go.Proofs.YtfcaomejbcjfgaaDoor
end Go.Proofs.YtfcaomejbcjfgaaDoor

namespace Go.Proofs.YtfcaomejbcjfgaaDoor
open Go.RowKit
theorem Tryd.slOps : SlTy Tryd.prog 27 87 (.agg #[.int .i64 0, .int .i64 0]) 2 16 := SlTy.mk' Tryd.underlying27 (by kernel_rfl) (by rfl) (by omega)
theorem Row.newOp (w : World) (t : TypeId) (k v : Int) : Row (w.alloc (.cells #[.int .i64 k, .int .i64 v] t)) 2 (some ⟨w.heap.size, 0, none⟩) 1 1 (opc (k, v)) := by
  refine ⟨rfl, Nat.le_refl _, by unfold maxLen; omega, w.heap.size, 0, (by intro h; cases h), fun _ => rfl, fun j u hu => ?_⟩
  rw [Nat.zero_add, World.cell?_alloc_at _ _ _ _ rfl]
  simpa [opc] using hu
end Go.Proofs.YtfcaomejbcjfgaaDoor

namespace Go.Proofs.YtfcaomejbcjfgaaDoor
open Go.RowKit
end Go.Proofs.YtfcaomejbcjfgaaDoor

namespace Go.Proofs.YtfcaomejbcjfgaaDoor
open Go.RowKit
end Go.Proofs.YtfcaomejbcjfgaaDoor

namespace Go.Proofs.YtfcaomejbcjfgaaDoor
open Go.RowKit
end Go.Proofs.YtfcaomejbcjfgaaDoor

namespace Go.Proofs.YtfcaomejbcjfgaaDoor
open Go.RowKit
end Go.Proofs.YtfcaomejbcjfgaaDoor

namespace Go.Proofs.YtfcaomejbcjfgaaDoor
open Go.RowKit
end Go.Proofs.YtfcaomejbcjfgaaDoor

namespace Go.Proofs.YtfcaomejbcjfgaaDoor
open Go.RowKit
end Go.Proofs.YtfcaomejbcjfgaaDoor

namespace Go.Proofs.YtfcaomejbcjfgaaDoor
open Go.RowKit
def mkK (k : Int) : Bool := decide (k = 6 ∨ k = 7 ∨ 8 ≤ k ∧ k ≤ 12)
def tkK (k : Int) : Bool := decide (8 ≤ k ∧ k ≤ 12)
def okK (k : Int) : Bool := decide (1 ≤ k ∧ k ≤ 12)
set_option maxRecDepth 100000 in
set_option maxHeartbeats 2000000 in
theorem truth_fn (k : Int) (w : World) :
    Calls Tryd.prog 86 #[.int .i64 k] w fun e w' => e = .returned (.tuple #[.bool (mkK k), .bool (tkK k), .bool (okK k)]) ∧ w = w' := by
  by_cases h : 1 ≤ k ∧ k ≤ 12
  · have hv : k = 1 ∨ k = 2 ∨ k = 3 ∨ k = 4 ∨ k = 5 ∨ k = 6 ∨ k = 7 ∨ k = 8 ∨ k = 9 ∨ k = 10 ∨ k = 11 ∨ k = 12 := by omega
    clear h
    rcases hv with rfl | rfl | rfl | rfl | rfl | rfl | rfl | rfl | rfl | rfl | rfl | rfl
    all_goals
      go_enter Tryd.func86, Tryd.ntmps86
      go_wp2
      go_ret3
      exact ⟨rfl, rfl⟩
  · have e1 : mkK k = false := by unfold mkK; simp; omega
    have e2 : tkK k = false := by unfold tkK; simp; omega
    have e3 : okK k = false := by unfold okK; simp; omega
    rw [e1, e2, e3]
    have f : ∀ n : Int, 1 ≤ n → n ≤ 12 → (k == n) = false := fun n h1 h2 => by rw [beq_eq_false_iff_ne]; omega
    have f1 := f 1 (by omega) (by omega)
    have f2 := f 2 (by omega) (by omega)
    have f3 := f 3 (by omega) (by omega)
    have f4 := f 4 (by omega) (by omega)
    have f5 := f 5 (by omega) (by omega)
    have f6 := f 6 (by omega) (by omega)
    have f7 := f 7 (by omega) (by omega)
    have f8 := f 8 (by omega) (by omega)
    have f9 := f 9 (by omega) (by omega)
    have f10 := f 10 (by omega) (by omega)
    have f11 := f 11 (by omega) (by omega)
    have f12 := f 12 (by omega) (by omega)
    clear f e1 e2 e3 h
    go_enter Tryd.func86, Tryd.ntmps86
    go_wp2
    go_ret3
    exact ⟨rfl, rfl⟩
def opE (o : Op2) (vars : Int) : Int :=
  if okK o.1 = false then 13
  else if o.2 < (if o.1 = 1 then -1000 else 0) ∨ (if o.1 = 1 then 1000 else if o.1 = 2 then vars - 1 else 0) < o.2 then 2 else 0
set_option maxRecDepth 100000 in
set_option maxHeartbeats 2000000 in
theorem op_fn (o : Op2) (vars : Int) (w : World) (h1 : 0 ≤ vars) (h2 : vars ≤ 6) :
    Calls Tryd.prog 85 #[.agg #[.int .i64 o.1, .int .i64 o.2], .int .i64 vars] w fun e w' => e = .returned (.int .i64 (opE o vars)) ∧ Ext w w' := by
  obtain ⟨k, x⟩ := o
  have hE : Ext w (w.alloc (Obj.cells #[.int .i64 k, .int .i64 x] 87)) := (Ext.refl w).alloc (Nat.le_refl _) _
  have HT := Lib.hid (truth_fn k (w.alloc (Obj.cells #[.int .i64 k, .int .i64 x] 87)))
  have hv : okK k = false ∨ okK k = true := by cases okK k <;> simp
  rcases hv with hk | hk
  · have HK : Hid (opE (k, x) vars = 13) := by show opE (k, x) vars = 13; simp [opE, hk]
    rw [HK.out]
    rw [hk] at HT
    clear hk HK
    generalize mkK k = b1 at *
    generalize tkK k = b2 at *
    go_enter Tryd.func85, Tryd.ntmps85
    go_wp2_with fail
    refine HT.out.mono ?_
    rintro e w' ⟨rfl, rfl⟩
    go_wp2
    go_ret
    exact ⟨rfl, hE⟩
  · have hb : 1 ≤ k ∧ k ≤ 12 := by simpa [okK] using hk
    obtain ⟨hb1, hb2⟩ := hb
    have HK : Hid (opE (k, x) vars = if x < (if k = 1 then -1000 else 0) ∨ (if k = 1 then 1000 else if k = 2 then vars - 1 else 0) < x then 2 else 0) := by
      show opE (k, x) vars = _
      simp [opE, hk]
    rw [hk] at HT
    rw [HK.out]
    clear hk HK
    generalize mkK k = b1 at *
    generalize tkK k = b2 at *
    by_cases k1 : k = 1
    · subst k1
      simp only [if_true]
      generalize hr : (if x < -1000 ∨ 1000 < x then (2 : Int) else 0) = r at *
      have Hr := Lib.hid hr
      clear hr
      go_enter Tryd.func85, Tryd.ntmps85
      go_wp2_with fail
      refine HT.out.mono ?_
      rintro e w' ⟨rfl, rfl⟩
      go_wp2
      all_goals
        go_ret
        exact ⟨congrArg (fun n => Ending.returned (.int .i64 n)) (by rw [← Hr.out]; first | rw [if_pos (by omega)] | rw [if_neg (by omega)]), hE⟩
    · by_cases k2 : k = 2
      · subst k2
        simp only [if_neg k1, if_true]
        generalize hr : (if x < 0 ∨ vars - 1 < x then (2 : Int) else 0) = r at *
        have Hr := Lib.hid hr
        clear hr k1
        go_enter Tryd.func85, Tryd.ntmps85
        go_wp2_with fail
        refine HT.out.mono ?_
        rintro e w' ⟨rfl, rfl⟩
        go_wp2
        all_goals
          go_ret
          exact ⟨congrArg (fun n => Ending.returned (.int .i64 n)) (by rw [← Hr.out]; first | rw [if_pos (by omega)] | rw [if_neg (by omega)]), hE⟩
      · simp only [if_neg k1, if_neg k2]
        generalize hr : (if x < 0 ∨ 0 < x then (2 : Int) else 0) = r at *
        have Hr := Lib.hid hr
        clear hr
        have f1 : (k == 1) = false := by rw [beq_eq_false_iff_ne]; exact k1
        have f2 : (k == 2) = false := by rw [beq_eq_false_iff_ne]; exact k2
        clear k1 k2
        go_enter Tryd.func85, Tryd.ntmps85
        go_wp2_with fail
        refine HT.out.mono ?_
        rintro e w' ⟨rfl, rfl⟩
        go_wp2
        all_goals
          go_ret
          exact ⟨congrArg (fun n => Ending.returned (.int .i64 n)) (by rw [← Hr.out]; first | rw [if_pos (by omega)] | rw [if_neg (by omega)]), hE⟩
end Go.Proofs.YtfcaomejbcjfgaaDoor

namespace Go.Proofs.YtfcaomejbcjfgaaDoor
def aheadB (k : Int) : Bool := decide (14 ≤ k ∧ k ≤ 18)
def cntA : List Op2 → Nat
  | [] => 0
  | o :: l => (if aheadB o.1 then 1 else 0) + cntA l
theorem cntA_app (a b : List Op2) : cntA (a ++ b) = cntA a + cntA b := by
  induction a with
  | nil => simp [cntA]
  | cons o a ih => simp only [List.cons_append, cntA, ih]; omega
def FitOp (props : Int) (o : Op2) : Prop := 8 ≤ o.1 ∧ o.1 ≤ 18 ∧ (o.1 = 13 → 0 ≤ o.2 ∧ o.2 < props) ∧ (o.1 ≠ 13 → o.2 = 0)
end Go.Proofs.YtfcaomejbcjfgaaDoor
