/- FillM: what is needed of it. No condition. -/
import Derived.Test.YthkiegaifkkegaaDoorSettleR
import Derived.Test.YthkiegaifkkegaaDoorSettleF
import Derived.Test.YthkiegaifkkegaaDoorSettleG
import Derived.Test.YthkiegaifkkegaaDoorRowP
namespace Go.Proofs.YthkiegaifkkegaaDoor
open Go.RowKit
theorem below_set {B : Nat} {w w1 : World} (h : Below B w w1) (p : Addr) (v : Value) : Below B (w.setCell p v) (w1.setCell p v) := by
  refine ⟨h.os, h.tape, h.output, by simpa using h.size, fun k hk => ?_⟩
  have e := h.block k hk
  by_cases hp : k = p.block
  · subst hp
    show (w1.heap.modify p.block _)[p.block]? = (w.heap.modify p.block _)[p.block]?
    rw [Array.getElem?_modify, Array.getElem?_modify, e]
  · rw [Below.heap_setCell _ _ _ _ hp, Below.heap_setCell _ _ _ _ hp, e]
theorem cell_far {w : World} {a b : Addr} {u : Value} (h : w.cell? b = some u) (hne : b.block ≠ a.block) (v : Value) : (w.setCell a v).cell? b = some u :=
  by rw [World.cell?_setCell_other (h := fun e => hne (by rw [e]))]; exact h
theorem cell_side {w : World} {R i j : Nat} {u : Value} (h : w.cell? ⟨R, j, none⟩ = some u) (hne : j ≠ i) (v : Value) : (w.setCell ⟨R, i, none⟩ v).cell? ⟨R, j, none⟩ = some u :=
  by rw [World.cell?_setCell_other (h := fun e => by injection e with _ e; exact hne e.symm)]; exact h
theorem upd_val (V : Nat → Bool) (i : Nat) : updB (fun j => if j < i then V j else false) i (V i) = fun j => if j < i + 1 then V j else false := by
  funext j
  unfold updB
  by_cases e : j = i
  · subst e; simp
  · simp only [if_neg e]
    by_cases h : j < i
    · rw [if_pos h, if_pos (by omega)]
    · rw [if_neg h, if_neg (by omega)]
theorem keep_val {V : Nat → Bool} {i : Nat} (h : V i = false) : (fun j => if j < i then V j else false) = fun j => if j < i + 1 then V j else false := by
  rw [← upd_val V i, h]
  funext j
  unfold updB
  by_cases e : j = i
  · subst e; simp
  · rw [if_neg e]
theorem _root_.Go.World.grownBy.later_drew {w w' : World} {row : Option Nat} (h : w.grownBy w' row) (q : Nat) : w.grownBy (w'.drewN q) row := ⟨h.os, h.tape, h.output, h.size, h.block⟩
structure TMem (W2 w : World) (T RB N : Nat) (fv ev : Value) (al : Option Addr) (cl : Nat) (vs : List Value) (W : Wd) (S : List Tm) (at' : Nat) : Prop where
  ext : Ext W2 w
  tb : w.heap[T]? = some (.cells #[fv, ev, .slice al W.n cl, .int .i64 (W.back : Int), .slice (some ⟨RB, 0, none⟩) N N] 52 (0, 0))
  rb : ∃ xs, w.ownsRow W2.heap.size 32 1 (.slice (some ⟨RB, 0, none⟩) N N) N xs
  ne : T ≠ RB
  lo : W2.heap.size ≤ T
  rl : Row w 1 al W.n cl vs
  nl : ∀ q : Addr, al = some q → 0 < vs.length → q.block ≠ RB
  rows : ∀ q s, at' ≤ q → S[q]? = some s → ∃ R, w.cell? ⟨RB, q, none⟩ = some (.slice (some ⟨R, 0, none⟩) W.n W.n) ∧ R ≠ T ∧ R ≠ RB ∧ w.ownsRow W2.heap.size 4 1 (.slice (some ⟨R, 0, none⟩) W.n W.n) W.n (rowF W.n (satB W s))
theorem TMem.fin {W2 w w' : World} {T RB N : Nat} {fv ev : Value} {al : Option Addr} {cl : Nat} {vs : List Value} {W : Wd} {S : List Tm} {p R : Nat} {s : Tm} {r : Nat → Bool} (h : TMem W2 w T RB N fv ev al cl vs W S (p + 1)) (hR : R = w.heap.size) (hp : p < N)
    (hE : Below w.heap.size (w.setCell ⟨RB, p, none⟩ (.slice (some ⟨R, 0, none⟩) W.n W.n)) w') (hr : w'.ownsRow W2.heap.size 4 1 (.slice (some ⟨R, 0, none⟩) W.n W.n) W.n (rowF W.n r)) (hs : S[p]? = some s) (hv : ∀ i, i < W.n → r i = satB W s i) :
    TMem W2 w' T RB N fv ev al cl vs W S p := by
  obtain ⟨xs, hxs⟩ := h.rb
  have hlo := (hxs.lt RB rfl).1
  have hRBl := (hxs.lt RB rfl).2
  have hT := blk_lt h.tb
  have e1 : Ext W2 (w.setCell ⟨RB, p, none⟩ (.slice (some ⟨R, 0, none⟩) W.n W.n)) := ext_st h.ext (p := ⟨RB, p, none⟩) hlo _
  have e2 : Below W2.heap.size (w.setCell ⟨RB, p, none⟩ (.slice (some ⟨R, 0, none⟩) W.n W.n)) w' := Below.mono hE h.ext.size
  have x1 := own_setAt hxs (i := p) (.slice (some ⟨R, 0, none⟩) W.n W.n)
  have x2 := own_below x1 hE fun k hk => by have h3 := (x1.lt k hk).2; simpa using h3
  have hxl : xs.length = N := by simpa using hxs.1
  have hrF : rowF W.n r = rowF W.n (satB W s) := by
    unfold rowF
    exact List.map_congr_left fun j hj => by rw [hv j (List.mem_range.1 hj)]
  rw [hrF] at hr
  have hrl : Row w' 1 al W.n cl vs := h.rl.keep fun q hq hx => by
    have hb : q.block < w.heap.size := by subst hq; exact h.rl.blk hx
    rw [hE.block _ hb, Below.heap_setCell _ _ _ _ (h.nl q hq hx)]
  refine ⟨Below.trans e1 e2, ?_, ⟨_, x2⟩, h.ne, h.lo, hrl, h.nl, fun q s' hq hs' => ?_⟩
  · exact (hE.block T hT).trans (blk_far h.tb (p := ⟨RB, p, none⟩) (Ne.symm h.ne) _)
  · by_cases e : q = p
    · subst e
      obtain rfl : s = s' := by rw [hs] at hs'; exact Option.some.inj hs'
      refine ⟨R, ?_, by omega, by omega, hr⟩
      have hl : q < (xs.set q (.slice (some ⟨R, 0, none⟩) W.n W.n)).length := by simp; omega
      refine (own_cellAt x2 hl).trans ?_
      simp
    · obtain ⟨R', k1, k2, k3, k4⟩ := h.rows q s' (by omega) hs'
      have hR' := (k4.lt R' rfl).2
      refine ⟨R', ?_, k2, k3, ?_⟩
      · refine (World.cell?_of_block (a := ⟨RB, q, none⟩) (hE.block RB hRBl)).trans ?_
        rw [World.cell?_setCell_other (h := by intro h; injection h with _ h; exact e h.symm)]
        exact k1
      · exact own_below (own_setCell k4 (p := ⟨RB, p, none⟩) _ (by simpa [Value.ownBlock] using k3)) hE fun k hk => by
          simp only [Value.ownBlock, Option.some.injEq] at hk
          omega
theorem ownX {w wx : World} {RB : Nat} {W : Wd} {p R : Nat} (hE : Below w.heap.size (w.setCell ⟨RB, p, none⟩ (.slice (some ⟨R, 0, none⟩) W.n W.n)) wx) {base RA : Nat} {r : Nat → Bool} (o : w.ownsRow base 4 1 (.slice (some ⟨RA, 0, none⟩) W.n W.n) W.n (rowF W.n r)) (nB : RA ≠ RB) : wx.ownsRow base 4 1 (.slice (some ⟨RA, 0, none⟩) W.n W.n) W.n (rowF W.n r) :=
  own_below (own_setCell o (p := ⟨RB, p, none⟩) _ (by simpa [Value.ownBlock] using nB)) hE fun k hk => (o.lt k hk).2
section
variable {W2 w wx : World} {T RB N : Nat} {fv ev : Value} {al : Option Addr} {cl : Nat} {vs : List Value} {W : Wd} {S : List Tm} {p R : Nat} (h : TMem W2 w T RB N fv ev al cl vs W S (p + 1))
  (hE : Below w.heap.size (w.setCell ⟨RB, p, none⟩ (.slice (some ⟨R, 0, none⟩) W.n W.n)) wx)
include h hE
theorem TMem.extX : Ext W2 wx := by
  obtain ⟨xs, hxs⟩ := h.rb
  exact Below.trans (ext_st h.ext (p := ⟨RB, p, none⟩) (hxs.lt RB rfl).1 _) (Below.mono hE h.ext.size)
theorem TMem.tbl : wx.heap[T]? = some (.cells #[fv, ev, .slice al W.n cl, .int .i64 (W.back : Int), .slice (some ⟨RB, 0, none⟩) N N] 52 (0, 0)) :=
  (hE.block T (blk_lt h.tb)).trans (blk_far h.tb (p := ⟨RB, p, none⟩) (Ne.symm h.ne) _)
theorem TMem.cellP (hp : p < N) : wx.cell? ⟨RB, p, none⟩ = some (.slice (some ⟨R, 0, none⟩) W.n W.n) := by
  obtain ⟨xs, hxs⟩ := h.rb
  have hl : xs.length = N := by simpa using hxs.1
  refine (World.cell?_of_block (a := ⟨RB, p, none⟩) (hE.block RB (hxs.lt RB rfl).2)).trans ?_
  exact World.cell?_setCell_same _ _ _ (own_cellAt hxs (i := p) (by omega))
theorem TMem.rowC {q RA : Nat} (hc : w.cell? ⟨RB, q, none⟩ = some (.slice (some ⟨RA, 0, none⟩) W.n W.n)) (hq : q ≠ p) : wx.cell? ⟨RB, q, none⟩ = some (.slice (some ⟨RA, 0, none⟩) W.n W.n) := by
  obtain ⟨xs, hxs⟩ := h.rb
  exact (World.cell?_of_block (a := ⟨RB, q, none⟩) (hE.block RB (hxs.lt RB rfl).2)).trans (cell_side hc hq _)
theorem TMem.letC {i : Nat} {u : Value} (hu : vs[i]? = some u) : ∃ bL oL, al = some ⟨bL, oL, none⟩ ∧ bL < w.heap.size ∧ wx.cell? ⟨bL, oL + i, none⟩ = some u := by
  obtain ⟨bL, oL, _, h2, h3⟩ := h.rl.lie
  have hp := getElem?_pos hu
  have ha := h2 hp
  have hb := World.block_lt_of_cell? _ _ (h3 i u hu)
  refine ⟨bL, oL, ha, hb, ?_⟩
  refine (World.cell?_of_block (a := ⟨bL, oL + i, none⟩) (hE.block bL hb)).trans ?_
  exact cell_far (h3 i u hu) (a := ⟨RB, p, none⟩) (show bL ≠ RB from h.nl _ ha hp) _
end
structure FIn (W2 : World) (l : List Op2) (es : List Int) (S : List Tm) (W : Wd) (af ae : Option Addr) (cf ce : Nat) (vs : List Value) (props : Nat) : Prop where
  rl : Row W2 2 af l.length cf (l.flatMap opc)
  re : Row W2 1 ae es.length ce (es.map (.int .i64))
  eL : EachB W2 vs W.ls
  lets : ∀ x ∈ W.ls, x.length = props
  tab : Tab W2
  n24 : W.n ≤ 24
  bk : W.back < W.n
  l60 : l.length ≤ 60
  el : es.length = l.length
  sl : S.length = l.length
theorem mid_world {W2 w w1 : World} {T RB N : Nat} {fv ev : Value} {al : Option Addr} {cl : Nat} {vs : List Value} {W : Wd} {S : List Tm} {p : Nat} (h : TMem W2 w T RB N fv ev al cl vs W S (p + 1)) (hE : Ext w w1)
    (ho : w1.ownsRow W2.heap.size 4 1 (.slice (some ⟨w.heap.size, 0, none⟩) W.n W.n) W.n (rowF W.n fun _ => false)) {w5 : World}
    (h5 : w5 = ((w1.setCell ⟨RB, p, none⟩ (.slice (some ⟨w.heap.size, 0, none⟩) W.n W.n)).alloc (Obj.cells #[.slice none 0 0] 32)).alloc (Obj.cells #[.slice none 0 0] 32)) :
    Below w.heap.size (w.setCell ⟨RB, p, none⟩ (.slice (some ⟨w.heap.size, 0, none⟩) W.n W.n)) w5 ∧ w5.ownsRow W2.heap.size 4 1 (.slice (some ⟨w.heap.size, 0, none⟩) W.n W.n) W.n (rowF W.n fun _ => false) ∧
      w5.heap[w1.heap.size]? = some (.cells #[.slice none 0 0] 32 (0, 0)) ∧ w5.heap[w1.heap.size + 1]? = some (.cells #[.slice none 0 0] 32 (0, 0)) ∧ w.heap.size < w1.heap.size := by
  obtain ⟨xs, hxs⟩ := h.rb
  have hRB := (hxs.lt RB rfl).2
  have hR : w.heap.size < w1.heap.size := (ho.lt _ rfl).2
  generalize hw2 : w1.setCell ⟨RB, p, none⟩ (.slice (some ⟨w.heap.size, 0, none⟩) W.n W.n) = w2 at *
  have hsz : w2.heap.size = w1.heap.size := by rw [← hw2]; simp
  have hB2 : Below w.heap.size (w.setCell ⟨RB, p, none⟩ (.slice (some ⟨w.heap.size, 0, none⟩) W.n W.n)) w2 := by rw [← hw2]; exact below_set hE _ _
  have hO2 : w2.ownsRow W2.heap.size 4 1 (.slice (some ⟨w.heap.size, 0, none⟩) W.n W.n) W.n (rowF W.n fun _ => false) := by
    rw [← hw2]; exact own_setCell ho (p := ⟨RB, p, none⟩) _ (by simp [Value.ownBlock]; omega)
  have hE5 := ext_al (ext_al (Ext.refl w2) (Obj.cells #[.slice none 0 0] 32)) (Obj.cells #[.slice none 0 0] 32)
  have hbA := blk_ext (blk_new w2 (Obj.cells #[.slice none 0 0] 32)) (ext_al (Ext.refl _) (Obj.cells #[.slice none 0 0] 32))
  have hbB := blk_new (w2.alloc (Obj.cells #[.slice none 0 0] 32)) (Obj.cells #[.slice none 0 0] 32)
  rw [show (w2.alloc (Obj.cells #[.slice none 0 0] 32)).heap.size = w2.heap.size + 1 by simp] at hbB
  rw [← h5] at hE5 hbA hbB
  rw [hsz] at hbA hbB
  exact ⟨Below.trans hB2 (Below.mono hE5 (by rw [hsz]; exact Nat.le_of_lt hR)), own_ext hO2 hE5, hbA, hbB, hR⟩
end Go.Proofs.YthkiegaifkkegaaDoor
