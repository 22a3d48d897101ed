/- FormC: what is needed of it. No condition. -/
import Derived.Test.YthkiegaifkkegaaDoorFormB
namespace Go.Proofs.YthkiegaifkkegaaDoor
open Go.RowKit
theorem formula_any (G B : Nat) (ar : Option Addr) (cr : Nat) (raw : List Op2) (vars props : Int) (hraw : RawF raw) (hv : 0 < props) (hv2 : props ≤ 1000) :
    ∀ (d : Nat), d ≤ 6 → ∀ (w : World) (p t : Nat) (out : List Op2), Gr w G B ar cr raw p vars props (t : Int) out → p ≤ 14 + d + 30 → out.length + 100 * d ≤ 700 → t ≤ 1000 →
    Calls Tryd.prog 12 #[.pointer (some ⟨G, 0, none⟩), .int .i64 d] w (FMade w G B ar cr raw vars props out (fT raw props d p t)) := by
  intro d
  induction d with
  | zero =>
    intro _ w p t out h hp ho _
    exact formula_leaf w G B ar cr raw p vars props t out h hraw (by omega) (by omega) hv hv2 0 (.inl rfl)
  | succ d ih =>
    intro hd w p t out h hp ho ht
    have ih' := ih (by omega)
    have hb := fKind_bd (rawAt raw p) (d + 1) p t
    unfold fT
    by_cases hp12 : p < 12
    · have hk0 : fKind0 (rawAt raw p) (d + 1) p = pk (rawAt raw p).1 16 := by unfold fKind0; rw [if_neg (by omega)]
      by_cases hs : 8 < fKind0 (rawAt raw p) (d + 1) p ∧ t = 0
      · have hk : fKind (rawAt raw p) (d + 1) p t = 4 + fKind0 (rawAt raw p) (d + 1) p % 5 := by unfold fKind; rw [if_pos hs]
        rw [if_neg (by omega)]
        rw [hk0] at hs hk
        split
        · exact formula_nots w G B ar cr raw p vars props t out h hraw d (by omega) hp12 ho ht _ _ rfl hs.1 hs.2 hk.symm (by omega) (by omega) ih'
        · rw [if_pos (by omega)]
          exact formula_bins w G B ar cr raw p vars props t out h hraw d (by omega) hp12 ho ht _ _ rfl hs.1 hs.2 hk.symm (by omega) (by omega) ih'
      · have hk : fKind (rawAt raw p) (d + 1) p t = fKind0 (rawAt raw p) (d + 1) p := by unfold fKind; rw [if_neg hs]
        rw [hk0] at hk
        have ht0 : ¬ fKind (rawAt raw p) (d + 1) p t < 9 → t ≠ 0 := fun h e => h (hb.2.2.2 e)
        split
        · exact formula_leafB w G B ar cr raw p vars props t out h hraw d (by omega) hp12 ho hv hv2 _ hk.symm (by omega)
        · split
          · exact formula_not w G B ar cr raw p vars props t out h hraw d (by omega) hp12 ho ht _ hk.symm (by omega) (by omega) ih'
          · split
            · exact formula_bin w G B ar cr raw p vars props t out h hraw d (by omega) hp12 ho ht _ hk.symm (by omega) (by omega) ih'
            · rename_i h9
              split
              · exact formula_ah1 w G B ar cr raw p vars props t out h hraw d (by omega) hp12 ho ht _ hk.symm (by omega) (by omega) (ht0 h9) ih'
              · exact formula_ah2 w G B ar cr raw p vars props t out h hraw d (by omega) hp12 ho ht _ hk.symm (by omega) (ht0 h9) ih'
    · rw [if_pos (by omega)]
      exact formula_leaf w G B ar cr raw p vars props t out h hraw (by omega) (by omega) hv hv2 ((d + 1 : Nat) : Int) (.inr (by omega))
def forO (raw : List Op2) (props : Int) (t : Nat) : Tm := (fT raw props 4 0 t).1
set_option maxRecDepth 100000 in
set_option maxHeartbeats 1000000 in
theorem mkFormula (v : Value) (raw : List Op2) (props : Int) (t : Nat) (w : World) (h : Ops w v raw) (hraw : RawF raw) (hv : 0 < props) (hv2 : props ≤ 1000) (ht : t ≤ 1000) :
    Calls Tryd.prog 7 #[v, .int .i64 props, .int .i64 (t : Int)] w fun e w' => ∃ v', e = .returned v' ∧ w'.ownsRow w.heap.size 41 2 v' (forO raw props t).flat.length ((forO raw props t).flat.flatMap opc) ∧ Ext w w' := by
  obtain ⟨ar, cr, rfl, hr⟩ := h
  have hE : Ext w (w.alloc (Obj.cells #[.slice ar raw.length cr, .int .i64 0, .int .i64 0, .int .i64 props, .int .i64 (t : Int), .slice none 0 0] 46)) := (Ext.refl w).alloc (Nat.le_refl _) _
  have hg : Gr (w.alloc (Obj.cells #[.slice ar raw.length cr, .int .i64 0, .int .i64 0, .int .i64 props, .int .i64 (t : Int), .slice none 0 0] 46)) w.heap.size w.heap.size ar cr raw 0 0 props (t : Int) [] :=
    ⟨by simp [go_sem], by simp [go_sem], by simp [go_sem], by simp [go_sem], by simp [go_sem], ⟨none, 0, by simp [go_sem], World.ownsRow_nil _ _ _ _, by simp [Value.ownBlock]⟩, fun i => by simp [go_sem], hr.ext hE,
      fun q hq hx => by subst hq; exact hr.blk (by rw [opc_len]; omega), Nat.le_refl _⟩
  have HC := Lib.hid (formula_any w.heap.size w.heap.size ar cr raw 0 props hraw hv hv2 4 (by omega) _ 0 t [] hg (by omega) (by simp) ht)
  have hbel := hE
  clear hr
  go_enter Tryd.func7, Tryd.ntmps7
  go_wp2_with fail
  refine HC.out.mono ?_
  rintro e w2 ⟨rfl, g2, b2⟩
  obtain ⟨ao, co, c5, h6, _⟩ := g2.c5
  have H6 := Lib.hid h6
  have HE2 : Hid (Ext w w2) := Below.trans hE b2
  clear h6 g2 b2 hg hE hbel
  go_wp2
  go_ret
  exact ⟨_, rfl, H6.out, HE2.out⟩
end Go.Proofs.YthkiegaifkkegaaDoor
