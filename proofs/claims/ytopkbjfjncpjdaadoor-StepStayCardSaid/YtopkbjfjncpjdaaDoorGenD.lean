/- GenD: what is needed of it. No condition. -/
import Derived.Test.YtopkbjfjncpjdaaDoorGenC
namespace Go.Proofs.YtopkbjfjncpjdaaDoor
open Go.RowKit
theorem truT_sizeb (raw : List Op2) (vars : Int) (d q : Nat) (hd : d ≤ 10) : (truT raw vars d q).1.size ≤ 60 := by
  have h1 := truT_end raw vars d q
  have h2 := truT_size raw vars d q
  by_cases h : 10 ≤ q
  · have := h1.1 h; omega
  · have := h1.2 (by omega); omega
theorem truth_any (G B : Nat) (ar : Option Addr) (cr : Nat) (raw : List Op2) (vars props tempo : Int) (hraw : RawI raw) (hv2 : vars ≤ 1000) :
    ∀ (d : Nat), d ≤ 5 → ∀ (w : World) (p : Nat) (out : List Op2), Gr w G B ar cr raw p vars props tempo out → p + 100 * d ≤ 700 → out.length + 100 * d ≤ 700 →
    Calls Tryd.prog 18 #[.pointer (some ⟨G, 0, none⟩), .int .i64 d] w (Made w G B ar cr raw vars props tempo out (truT raw vars d p)) := by
  intro d
  induction d with
  | zero =>
    intro _ w p out h hp ho
    have hb := truKind_bd (rawAt raw p) 0 p
    have hk : pk (rawAt raw p).1 3 = truKind (rawAt raw p) 0 p := by unfold truKind; simp
    unfold truT
    split
    · rename_i h0
      exact truth_z0 w G B ar cr raw p vars props tempo out h hraw (by omega) (by omega) hv2 _ hk h0
    · exact truth_zc w G B ar cr raw p vars props tempo out h hraw (by omega) (by omega) hv2 _ hk (by omega)
  | succ d ih =>
    intro hd w p out h hp ho
    have hb := truKind_bd (rawAt raw p) (d + 1) p
    have hs := fun q => truT_sizeb raw vars d q (by omega)
    have ih' := ih (by omega)
    unfold truT
    by_cases hc : 10 < p + 1
    · have hk : pk (rawAt raw p).1 3 = truKind (rawAt raw p) (d + 1) p := by unfold truKind; simp [hc]
      split
      · rename_i h0
        exact truth_a0 w G B ar cr raw p vars props tempo out h hraw d (by omega) hc hp ho hv2 _ hk h0
      · rw [if_pos (by omega)]
        exact truth_ac w G B ar cr raw p vars props tempo out h hraw d (by omega) hc hp ho hv2 _ hk (by omega)
    · have hk : pk (rawAt raw p).1 9 = truKind (rawAt raw p) (d + 1) p := by unfold truKind; simp [hc]
      split
      · rename_i h0
        exact truth_b0 w G B ar cr raw p vars props tempo out h hraw d (by omega) hc hp ho hv2 _ hk h0
      · split
        · exact truth_bc w G B ar cr raw p vars props tempo out h hraw d (by omega) hc hp ho hv2 _ hk (by omega) (by omega)
        · split
          · rename_i h5
            exact truth_b5 w G B ar cr raw p vars props tempo out h hraw d (by omega) hc hp ho hv2 _ hk h5 ih' hs
          · exact truth_bb w G B ar cr raw p vars props tempo out h hraw d (by omega) hc hp ho hv2 _ hk (by omega) ih' hs
def truO (raw : List Op2) (vars : Int) : Tm := (truT raw vars 3 0).1
def numO (raw : List Op2) (vars : Int) : Tm := (numT raw vars 2 0).1
set_option maxRecDepth 100000 in
set_option maxHeartbeats 1000000 in
theorem mkTruth (v : Value) (raw : List Op2) (vars : Int) (w : World) (h : Ops w v raw) (hraw : RawI raw) (hv2 : vars ≤ 1000) :
    Calls Tryd.prog 11 #[v, .int .i64 vars] w fun e w' => ∃ v', e = .returned v' ∧ w'.ownsRow w.heap.size 36 2 v' (truO raw vars).flat.length ((truO raw vars).flat.flatMap opc) ∧ Ext w w' := by
  obtain ⟨ar, cr, rfl, hr⟩ := h
  have hE : Ext w (w.alloc (Obj.cells #[.slice ar raw.length cr, .int .i64 0, .int .i64 vars, .int .i64 0, .int .i64 0, .slice none 0 0] 64)) := (Ext.refl w).alloc (Nat.le_refl _) _
  have hg : Gr (w.alloc (Obj.cells #[.slice ar raw.length cr, .int .i64 0, .int .i64 vars, .int .i64 0, .int .i64 0, .slice none 0 0] 64)) w.heap.size w.heap.size ar cr raw 0 vars 0 0 [] :=
    ⟨by simp [go_sem], by simp [go_sem], by simp [go_sem], by simp [go_sem], by simp [go_sem], ⟨none, 0, by simp [go_sem], World.ownsRow_nil _ _ _ _, by simp [Value.ownBlock]⟩, fun i => by simp [go_sem], hr.ext hE,
      fun q hq hx => by subst hq; exact hr.blk (by rw [opc_len]; omega), Nat.le_refl _⟩
  have HC := Lib.hid (truth_any w.heap.size w.heap.size ar cr raw vars 0 0 hraw hv2 3 (by omega) _ 0 [] hg (by omega) (by simp))
  have hbel := hE
  clear hr
  go_enter Tryd.func11, Tryd.ntmps11
  go_wp2_with fail
  refine HC.out.mono ?_
  rintro e w2 ⟨rfl, g2, b2⟩
  obtain ⟨ao, co, c5, h6, _⟩ := g2.c5
  have H6 := Lib.hid h6
  have HE2 : Hid (Ext w w2) := Below.trans hE b2
  clear h6 g2 b2 hg hE hbel
  go_wp2
  go_ret
  exact ⟨_, rfl, H6.out, HE2.out⟩
set_option maxRecDepth 100000 in
set_option maxHeartbeats 1000000 in
theorem mkNumber (v : Value) (raw : List Op2) (vars : Int) (w : World) (h : Ops w v raw) (hraw : RawI raw) (hv2 : vars ≤ 1000) :
    Calls Tryd.prog 12 #[v, .int .i64 vars] w fun e w' => ∃ v', e = .returned v' ∧ w'.ownsRow w.heap.size 36 2 v' (numO raw vars).flat.length ((numO raw vars).flat.flatMap opc) ∧ Ext w w' := by
  obtain ⟨ar, cr, rfl, hr⟩ := h
  have hE : Ext w (w.alloc (Obj.cells #[.slice ar raw.length cr, .int .i64 0, .int .i64 vars, .int .i64 0, .int .i64 0, .slice none 0 0] 64)) := (Ext.refl w).alloc (Nat.le_refl _) _
  have hg : Gr (w.alloc (Obj.cells #[.slice ar raw.length cr, .int .i64 0, .int .i64 vars, .int .i64 0, .int .i64 0, .slice none 0 0] 64)) w.heap.size w.heap.size ar cr raw 0 vars 0 0 [] :=
    ⟨by simp [go_sem], by simp [go_sem], by simp [go_sem], by simp [go_sem], by simp [go_sem], ⟨none, 0, by simp [go_sem], World.ownsRow_nil _ _ _ _, by simp [Value.ownBlock]⟩, fun i => by simp [go_sem], hr.ext hE,
      fun q hq hx => by subst hq; exact hr.blk (by rw [opc_len]; omega), Nat.le_refl _⟩
  have HC := Lib.hid (number_two _ w.heap.size w.heap.size ar cr raw 0 vars 0 0 [] hg hraw (by omega) (by simp) hv2)
  have hbel := hE
  clear hr
  go_enter Tryd.func12, Tryd.ntmps12
  go_wp2_with fail
  refine HC.out.mono ?_
  rintro e w2 ⟨rfl, g2, b2⟩
  obtain ⟨ao, co, c5, h6, _⟩ := g2.c5
  have H6 := Lib.hid h6
  have HE2 : Hid (Ext w w2) := Below.trans hE b2
  clear h6 g2 b2 hg hE hbel
  go_wp2
  go_ret
  exact ⟨_, rfl, H6.out, HE2.out⟩
end Go.Proofs.YtopkbjfjncpjdaaDoor
