/- What the laws of words need: formulas by size, words in boxes, joined behind a draw. -/
import Derived.Test.YthkiegaifkkegaaDoorWordM
import Derived.Test.YthkiegaifkkegaaDoorWordQ
import Derived.Test.YthkiegaifkkegaaDoorFormC
import Derived.Test.YthkiegaifkkegaaDoorFmJ
import Derived.Test.YthkiegaifkkegaaDoorRawF
import Derived.Deep.RegionHeld3
import Derived.BigQuiet
namespace Go.Proofs.YthkiegaifkkegaaDoor
open Go.RowKit
theorem spell_of {W : World} {cs : Array Value} (h : Cells Tryd.prog W 25 cs.toList) : ∃ (aS aL : Option Addr) (cS cL : Nat) (S L : List Int), cs = #[.slice aS S.length cS, .slice aL L.length cL] ∧ Ints W (.slice aS S.length cS) S ∧ Ints W (.slice aL L.length cL) L ∧ (∀ n ∈ S, I64 n) ∧ ∀ n ∈ L, I64 n := by
  obtain ⟨hl, hf⟩ := h.field Tryd.underlying25
  have hsz : Tryd.prog.cellsOf 25 = 2 := by kernel_rfl
  have hs1 : Tryd.prog.cellsOf 23 = 1 := by kernel_rfl
  rw [hsz] at hl
  obtain ⟨l, rfl⟩ : ∃ l : List Value, cs = l.toArray := ⟨cs.toList, by simp⟩
  simp only at hl hf
  match l, hl with
  | [a, b], _ =>
    have h0 : Cells Tryd.prog W 23 [a] := by have := hf 0 _ rfl; simpa [hs1] using this
    have h1 : Cells Tryd.prog W 23 [b] := by have := hf 1 _ rfl; simpa [hs1] using this
    obtain ⟨u, S, e0, hS, iS⟩ := h0.ints Tryd.underlying23 Tryd.underlying3 (by kernel_rfl)
    obtain ⟨v, L, e1, hL, iL⟩ := h1.ints Tryd.underlying23 Tryd.underlying3 (by kernel_rfl)
    simp at e0 e1
    subst e0; subst e1
    have hS' := hS
    have hL' := hL
    obtain ⟨aS, cS, rfl, _⟩ := hS
    obtain ⟨aL, cL, rfl, _⟩ := hL
    exact ⟨aS, aL, cS, cL, S, L, rfl, hS', hL', iS, iL⟩
theorem box_word (w : World) (sv lv : Value) (T : TypeId) : Ext w (((w.alloc (.cells #[.slice none 0 0, .slice none 0 0] T)).setCell ⟨w.heap.size, 0, none⟩ sv).setCell ⟨w.heap.size, 1, none⟩ lv) ∧
    (((w.alloc (.cells #[.slice none 0 0, .slice none 0 0] T)).setCell ⟨w.heap.size, 0, none⟩ sv).setCell ⟨w.heap.size, 1, none⟩ lv).cell? ⟨w.heap.size, 0, none⟩ = some sv ∧
    (((w.alloc (.cells #[.slice none 0 0, .slice none 0 0] T)).setCell ⟨w.heap.size, 0, none⟩ sv).setCell ⟨w.heap.size, 1, none⟩ lv).cell? ⟨w.heap.size, 1, none⟩ = some lv := by
  have hb := blk_new w (.cells #[.slice none 0 0, .slice none 0 0] T)
  have h1 := blk_set hb (i := 0) sv
  have h2 := blk_set h1 (i := 1) lv
  refine ⟨ext_st (ext_st (ext_al (Ext.refl w) _) (p := ⟨w.heap.size, 0, none⟩) (Nat.le_refl _) _) (p := ⟨w.heap.size, 1, none⟩) (Nat.le_refl _) _, ?_, ?_⟩
  · exact (World.cell?_of_block (a := ⟨w.heap.size, 0, none⟩) rfl).trans (blk_cell h2 (i := 0) (by simp))
  · exact (World.cell?_of_block (a := ⟨w.heap.size, 1, none⟩) rfl).trans (blk_cell h2 (i := 1) (by simp))
theorem holds_b (v sv lv : Value) (t : Tm) (Sm Lp : List (List Bool)) (w : World) (b : Bool) (h : IsT w v t) (ht : Tab w) {m c : Nat} (hf : Fm t m c) (hm : m ≤ 60) (hc : c ≤ 6) (hw : IsW w sv lv Sm Lp) (ho : WdOk Sm Lp 3) (hb : satB ⟨Sm ++ Lp, Sm.length⟩ t 0 = b) :
    Calls Tryd.prog 10 #[v, .agg #[sv, lv]] w fun e w' => e = .returned (.tuple #[.bool b, .bool true]) ∧ Ext w w' := by
  rw [← hb]
  exact holds_any v sv lv t Sm Lp w h ht (hf.isF hm hc) hw ho
end Go.Proofs.YthkiegaifkkegaaDoor
