/- The contracts of small, and of word.Moments over a word without a loop. -/
import Derived.Test.YtffjhhpikgodiaaDoorWordL
namespace Go.Proofs.YtffjhhpikgodiaaDoor
open Go.RowKit

def smallO (raw : List Op2) : Tm := (fT raw 3 2 0 1).1
theorem fT_depth (raw : List Op2) (props : Int) : ∀ d p t, (fT raw props d p t).1.size + 1 ≤ 2 ^ (d + 1) := by
  intro d
  induction d with
  | zero => intro p t; simp [fT, fLeaf_size]
  | succ d ih =>
    intro p t
    have hp : 2 ^ (d + 1 + 1) = 2 * 2 ^ (d + 1) := by rw [Nat.pow_succ]; omega
    have h0 : 2 ≤ 2 ^ (d + 1) := by have := Nat.pow_le_pow_right (n := 2) (by omega) (show 1 ≤ d + 1 by omega); simpa using this
    unfold fT
    have h1 := ih (p + 1) t
    have h2 := ih (fT raw props d (p + 1) t).2.1 (fT raw props d (p + 1) t).2.2
    have h3 := ih (p + 1) (t - 1)
    have h4 := ih (fT raw props d (p + 1) (t - 1)).2.1 (fT raw props d (p + 1) (t - 1)).2.2
    split
    · simp [fLeaf_size]; omega
    · split
      · simp only [Tm.size]; omega
      · split
        · simp only [Tm.size]; omega
        · split <;> simp only [Tm.size] <;> omega
theorem fm_small (raw : List Op2) : Fm (smallO raw) 7 1 := by
  have h1 := fT_depth raw 3 2 0 1
  have h2 := fT_cnt raw 3 2 0 1
  exact ⟨fT_ok raw 3 2 0 1, fT_fit raw 3 2 0 1, by unfold smallO; simp at h1; omega, by unfold smallO; omega⟩

set_option maxRecDepth 100000 in
set_option maxHeartbeats 1000000 in
theorem mkSmall (v : Value) (raw : List Op2) (w : World) (h : Ops w v raw) (hraw : RawF raw) :
    Calls Tryd.prog 26 #[v] w fun e w' => ∃ v', e = .returned v' ∧ w'.ownsRow w.heap.size 51 2 v' (smallO raw).flat.length ((smallO raw).flat.flatMap opc) ∧ Ext w w' := by
  obtain ⟨ar, cr, rfl, hr⟩ := h
  have hE : Ext w (w.alloc (Obj.cells #[.slice ar raw.length cr, .int .i64 0, .int .i64 0, .int .i64 3, .int .i64 1, .slice none 0 0] 63)) := (Ext.refl w).alloc (Nat.le_refl _) _
  have hg : Gr (w.alloc (Obj.cells #[.slice ar raw.length cr, .int .i64 0, .int .i64 0, .int .i64 3, .int .i64 1, .slice none 0 0] 63)) w.heap.size w.heap.size ar cr raw 0 0 3 ((1 : Nat) : Int) [] :=
    ⟨by simp [go_sem], by simp [go_sem], by simp [go_sem], by simp [go_sem], by simp [go_sem], ⟨none, 0, by simp [go_sem], World.ownsRow_nil _ _ _ _, by simp [Value.ownBlock]⟩, fun i => by simp [go_sem], hr.ext hE,
      fun q hq hx => by subst hq; exact hr.blk (by rw [opc_len]; omega), Nat.le_refl _⟩
  have HC := Lib.hid (formula_any w.heap.size w.heap.size ar cr raw 0 3 hraw (by omega) (by omega) 2 (by omega) _ 0 1 [] hg (by omega) (by simp) (by omega))
  have hbel := hE
  clear hr
  go_enter Tryd.func26, Tryd.ntmps26
  go_wp2_with fail
  refine HC.out.mono ?_
  rintro e w2 ⟨rfl, g2, b2⟩
  obtain ⟨ao, co, c5, h6, _⟩ := g2.c5
  have H6 := Lib.hid h6
  have HE2 : Hid (Ext w w2) := Below.trans hE b2
  clear h6 g2 b2 hg hE hbel
  go_wp2
  go_ret
  exact ⟨_, rfl, H6.out, HE2.out⟩

set_option maxRecDepth 100000 in
theorem wcheck_no (w : World) : Calls Tryd.prog 43 #[.agg #[.slice none 0 0, .slice none 0 0], .int .i64 3] w fun e w' => e = .returned (.int .i64 1) ∧ Ext w w' := by
  have hx := ext_al (Ext.refl w) (Obj.cells #[.slice none 0 0, .slice none 0 0] 43)
  go_enter Tryd.func43, Tryd.ntmps43
  go_wp2
  go_ret
  exact ⟨rfl, hx⟩

set_option maxRecDepth 100000 in
set_option maxHeartbeats 2000000 in
theorem open_no (v : Value) (t : Tm) (w : World) (h : IsT w v t) (ht : Tab w) (hf : IsF t.flat 3 t) :
    Calls Tryd.prog 35 #[v, .agg #[.slice none 0 0, .slice none 0 0], .int .i64 3] w fun e w' => e = .returned (.tuple #[.pointer none, .int .i64 1]) ∧ Ext w w' := by
  have hx := ext_al (Ext.refl w) (Obj.cells #[.slice none 0 0, .slice none 0 0] 43)
  have bW := blk_new w (Obj.cells #[.slice none 0 0, .slice none 0 0] 43)
  have HLC := Lib.hid (lcheck_ok v t.flat 3 t _ (ops_ext h hx) (ht.ext hx) hf)
  have HX := Lib.hid hx
  have BW := Lib.hid bW
  clear h ht hf hx bW
  go_enter Tryd.func35, Tryd.ntmps35
  go_wp2_with fail
  refine HLC.out.mono ?_
  rintro e w1 ⟨rfl, hE⟩
  have HE1 := Lib.hid (HX.out.trans hE)
  have b1 := blk_ext BW.out hE
  have c0 : w1.cell? ⟨w.heap.size, 0, none⟩ = some (.slice none 0 0) := blk_cell b1 (i := 0) rfl
  have c1 : w1.cell? ⟨w.heap.size, 1, none⟩ = some (.slice none 0 0) := blk_cell b1 (i := 1) rfl
  clear hE b1 HLC
  go_wp2_with fail
  refine (wcheck_no w1).mono ?_
  rintro e w2 ⟨rfl, hE⟩
  have HE2 := Lib.hid (HE1.out.trans hE)
  clear hE c0 c1
  go_wp2
  go_ret2
  exact ⟨rfl, HE2.out⟩

set_option maxRecDepth 100000 in
set_option maxHeartbeats 2000000 in
theorem moments_no (v : Value) (t : Tm) (w : World) (h : IsT w v t) (ht : Tab w) (hf : IsF t.flat 3 t) :
    Calls Tryd.prog 24 #[v, .agg #[.slice none 0 0, .slice none 0 0], .int .i64 3] w fun e w' => e = .returned (.tuple #[.slice none 0 0, .int .i64 1]) ∧ Ext w w' := by
  have hx := ext_al (Ext.refl w) (Obj.cells #[.slice none 0 0, .slice none 0 0] 43)
  have HOP := Lib.hid (open_no v t _ (h.ext hx) (ht.ext hx) hf)
  have HX := Lib.hid hx
  clear hx h ht hf
  go_enter Tryd.func24, Tryd.ntmps24
  go_wp2_with fail
  refine HOP.out.mono ?_
  rintro e w1 ⟨rfl, hE⟩
  have HE := Lib.hid (HX.out.trans hE)
  clear hE HOP
  go_wp2
  go_ret2
  exact ⟨rfl, HE.out⟩

end Go.Proofs.YtffjhhpikgodiaaDoor
