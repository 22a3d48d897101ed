/- Several texts in one: FormC; RawF. No condition. -/
import Derived.Test.YtfcaomejbcjfgaaGreatDoorKx9
namespace Go.Proofs.YtfcaomejbcjfgaaGreatDoor
open Go.RowKit
theorem formula_any (G B : Nat) (ar : Option Addr) (cr : Nat) (raw : List Op2) (vars props : Int) (hraw : RawF raw) (hv : 0 < props) (hv2 : props ≤ 1000) :
    ∀ (d : Nat), d ≤ 6 → ∀ (w : World) (p t : Nat) (out : List Op2), Gr w G B ar cr raw p vars props (t : Int) out → p ≤ 14 + d + 30 → out.length + 100 * d ≤ 700 → t ≤ 1000 →
    Calls Tryz.prog 26 #[.pointer (some ⟨G, 0, none⟩), .int .i64 d] w (FMade w G B ar cr raw vars props out (fT raw props d p t)) := by
  intro d
  induction d with
  | zero =>
    intro _ w p t out h hp ho _
    exact formula_leaf w G B ar cr raw p vars props t out h hraw (by omega) (by omega) hv hv2 0 (.inl rfl)
  | succ d ih =>
    intro hd w p t out h hp ho ht
    have ih' := ih (by omega)
    have hb := fKind_bd (rawAt raw p) (d + 1) p t
    unfold fT
    by_cases hp12 : p < 12
    · have hk0 : fKind0 (rawAt raw p) (d + 1) p = pk (rawAt raw p).1 16 := by unfold fKind0; rw [if_neg (by omega)]
      by_cases hs : 8 < fKind0 (rawAt raw p) (d + 1) p ∧ t = 0
      · have hk : fKind (rawAt raw p) (d + 1) p t = 4 + fKind0 (rawAt raw p) (d + 1) p % 5 := by unfold fKind; rw [if_pos hs]
        rw [if_neg (by omega)]
        rw [hk0] at hs hk
        split
        · exact formula_nots w G B ar cr raw p vars props t out h hraw d (by omega) hp12 ho ht _ _ rfl hs.1 hs.2 hk.symm (by omega) (by omega) ih'
        · rw [if_pos (by omega)]
          exact formula_bins w G B ar cr raw p vars props t out h hraw d (by omega) hp12 ho ht _ _ rfl hs.1 hs.2 hk.symm (by omega) (by omega) ih'
      · have hk : fKind (rawAt raw p) (d + 1) p t = fKind0 (rawAt raw p) (d + 1) p := by unfold fKind; rw [if_neg hs]
        rw [hk0] at hk
        have ht0 : ¬ fKind (rawAt raw p) (d + 1) p t < 9 → t ≠ 0 := fun h e => h (hb.2.2.2 e)
        split
        · exact formula_leafB w G B ar cr raw p vars props t out h hraw d (by omega) hp12 ho hv hv2 _ hk.symm (by omega)
        · split
          · exact formula_not w G B ar cr raw p vars props t out h hraw d (by omega) hp12 ho ht _ hk.symm (by omega) (by omega) ih'
          · split
            · exact formula_bin w G B ar cr raw p vars props t out h hraw d (by omega) hp12 ho ht _ hk.symm (by omega) (by omega) ih'
            · rename_i h9
              split
              · exact formula_ah1 w G B ar cr raw p vars props t out h hraw d (by omega) hp12 ho ht _ hk.symm (by omega) (by omega) (ht0 h9) ih'
              · exact formula_ah2 w G B ar cr raw p vars props t out h hraw d (by omega) hp12 ho ht _ hk.symm (by omega) (ht0 h9) ih'
    · rw [if_pos (by omega)]
      exact formula_leaf w G B ar cr raw p vars props t out h hraw (by omega) (by omega) hv hv2 ((d + 1 : Nat) : Int) (.inr (by omega))
def forO (raw : List Op2) (props : Int) (t : Nat) : Tm := (fT raw props 4 0 t).1
set_option maxRecDepth 100000 in
set_option maxHeartbeats 1000000 in
theorem mkFormula (v : Value) (raw : List Op2) (props : Int) (t : Nat) (w : World) (h : Ops w v raw) (hraw : RawF raw) (hv : 0 < props) (hv2 : props ≤ 1000) (ht : t ≤ 1000) :
    Calls Tryz.prog 11 #[v, .int .i64 props, .int .i64 (t : Int)] w fun e w' => ∃ v', e = .returned v' ∧ w'.ownsRow w.heap.size 79 2 v' (forO raw props t).flat.length ((forO raw props t).flat.flatMap opc) ∧ Ext w w' := by
  obtain ⟨ar, cr, rfl, hr⟩ := h
  have hE : Ext w (w.alloc (Obj.cells #[.slice ar raw.length cr, .int .i64 0, .int .i64 0, .int .i64 props, .int .i64 (t : Int), .slice none 0 0] 87)) := (Ext.refl w).alloc (Nat.le_refl _) _
  have hg : Gr (w.alloc (Obj.cells #[.slice ar raw.length cr, .int .i64 0, .int .i64 0, .int .i64 props, .int .i64 (t : Int), .slice none 0 0] 87)) w.heap.size w.heap.size ar cr raw 0 0 props (t : Int) [] :=
    ⟨by simp [go_sem], by simp [go_sem], by simp [go_sem], by simp [go_sem], by simp [go_sem], ⟨none, 0, by simp [go_sem], World.ownsRow_nil _ _ _ _, by simp [Value.ownBlock]⟩, fun i => by simp [go_sem], hr.ext hE,
      fun q hq hx => by subst hq; exact hr.blk (by rw [opc_len]; omega), Nat.le_refl _⟩
  have HC := Lib.hid (formula_any w.heap.size w.heap.size ar cr raw 0 props hraw hv hv2 4 (by omega) _ 0 t [] hg (by omega) (by simp) ht)
  have hbel := hE
  clear hr
  go_enter Tryz.func11, Tryz.ntmps11
  go_wp2_with fail
  refine HC.out.mono ?_
  rintro e w2 ⟨rfl, g2, b2⟩
  obtain ⟨ao, co, c5, h6, _⟩ := g2.c5
  have H6 := Lib.hid h6
  have HE2 : Hid (Ext w w2) := Below.trans hE b2
  clear h6 g2 b2 hg hE hbel
  go_wp2
  go_ret
  exact ⟨_, rfl, H6.out, HE2.out⟩
end Go.Proofs.YtfcaomejbcjfgaaGreatDoor

namespace Go.Proofs.YtfcaomejbcjfgaaGreatDoor
open Go.RowKit
set_option maxRecDepth 100000 in
theorem raw_for {W : World} {v : Value} (h : Cells Tryz.prog W 26 [v]) : ∃ raw, Ops W v raw ∧ RawF raw := by
  obtain ⟨a, cap, xss, hv, hr, hx⟩ := h.slice (sz := 2) Tryz.underlying26 (by kernel_rfl)
  have each : ∀ xs ∈ xss, ∃ o : { o : Op2 // I64 o.1 ∧ I64 o.2 }, xs = opc o.val := by
    intro xs hxs
    obtain ⟨hl, hc⟩ := hx xs hxs
    obtain ⟨_, hf⟩ := hc.field Tryz.underlying100
    match xs, hl with
    | [x, y], _ =>
      have c1 : Tryz.prog.cellsOf 3 = 1 := by kernel_rfl
      have f0 : Cells Tryz.prog W 3 [x] := by have := hf 0 _ rfl; simpa [c1] using this
      have f1 : Cells Tryz.prog W 3 [y] := by have := hf 1 _ rfl; simpa [c1] using this
      obtain ⟨m, e0, i0⟩ := Cells.i64 Tryz.underlying3 f0
      obtain ⟨n, e1, i1⟩ := Cells.i64 Tryz.underlying3 f1
      simp at e0 e1
      subst e0; subst e1
      exact ⟨⟨(m, n), i0, i1⟩, rfl⟩
  have build : ∀ yss : List (List Value), (∀ xs ∈ yss, ∃ o : { o : Op2 // I64 o.1 ∧ I64 o.2 }, xs = opc o.val) → ∃ raw : List Op2, yss.length = raw.length ∧ yss.flatten = raw.flatMap opc ∧ ∀ o ∈ raw, I64 o.1 ∧ I64 o.2 := by
    intro yss
    induction yss with
    | nil => intro _; exact ⟨[], rfl, rfl, by simp⟩
    | cons ys yss ih =>
      intro h
      obtain ⟨o, rfl⟩ := h ys (by simp)
      obtain ⟨raw, h1, h2, h3⟩ := ih (fun xs hxs => h xs (by simp [hxs]))
      refine ⟨o.val :: raw, by simp [h1], by simp [h2], ?_⟩
      intro q hq
      rcases List.mem_cons.1 hq with rfl | hq
      · exact o.property
      · exact h3 q hq
  obtain ⟨raw, h1, h2, h3⟩ := build xss each
  simp only [List.cons.injEq, and_true] at hv
  rw [h1, h2] at hr
  refine ⟨raw, ⟨a, cap, by rw [hv, h1], hr⟩, fun p => ?_⟩
  unfold rawAt
  rw [List.getD_eq_getElem?_getD]
  by_cases hp : p < raw.length
  · rw [List.getElem?_eq_getElem hp]; exact h3 _ (by simp)
  · rw [List.getElem?_eq_none (by omega)]; simp [I64]
end Go.Proofs.YtfcaomejbcjfgaaGreatDoor
