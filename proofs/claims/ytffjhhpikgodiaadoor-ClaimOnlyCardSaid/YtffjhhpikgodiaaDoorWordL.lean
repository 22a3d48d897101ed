/- What the laws of words need: formulas by size, words in boxes, joined behind a draw. -/
import Derived.Test.YtffjhhpikgodiaaDoorWordM
import Derived.Test.YtffjhhpikgodiaaDoorWordQ
import Derived.Test.YtffjhhpikgodiaaDoorFormC
import Derived.Test.YtffjhhpikgodiaaDoorRawF
import Derived.Deep.RegionHeld3
import Derived.BigQuiet
namespace Go.Proofs.YtffjhhpikgodiaaDoor
open Go.RowKit

/-- A formula over three propositions: at most so long, with at most so many ops that look ahead. -/
structure Fm (t : Tm) (m c : Nat) : Prop where
  ok : t.ok
  fit : ∀ o ∈ t.flat, FitOp 3 o
  size : t.size ≤ m
  cnt : cntA t.flat ≤ c
theorem Fm.isF {t : Tm} {m c : Nat} (h : Fm t m c) (hm : m ≤ 60) (hc : c ≤ 6) : IsF t.flat 3 t := ⟨h.ok, rfl, by have := h.size; omega, h.fit, by have := h.cnt; omega, by omega, by omega⟩
theorem Fm.one {t : Tm} {m c : Nat} (h : Fm t m c) (k : Int) (m' c' : Nat) (hk : (k = 10 ∧ c ≤ c') ∨ ((k = 14 ∨ k = 17 ∨ k = 18) ∧ c + 1 ≤ c')) (hm : m + 1 ≤ m') : Fm (.n1 k 0 t) m' c' := by
  have hk2 : k = 10 ∨ k = 14 ∨ k = 17 ∨ k = 18 := by omega
  refine ⟨⟨by omega, by omega, by unfold partsOf; rw [if_neg (by omega), if_pos (by omega)], h.ok⟩, ?_, by have := h.size; simp only [Tm.size]; omega, ?_⟩
  · intro o ho
    rcases List.mem_cons.1 ho with rfl | ho
    · exact ⟨by simp only; omega, by simp only; omega, fun h => by simp only at h; omega, fun _ => rfl⟩
    · exact h.fit o ho
  · have := h.cnt
    simp only [Tm.flat, cntA]
    rcases hk with ⟨rfl, h1⟩ | ⟨h1, h2⟩
    · simp [aheadB]; omega
    · split <;> omega
theorem Fm.two {a b : Tm} {m c n d : Nat} (h : Fm a m c) (g : Fm b n d) (k : Int) (m' c' : Nat) (hk : ((k = 8 ∨ k = 9) ∧ c + d ≤ c') ∨ ((k = 15 ∨ k = 16) ∧ c + d + 1 ≤ c')) (hm : m + n + 1 ≤ m') : Fm (.n2 k 0 a b) m' c' := by
  have hk2 : k = 8 ∨ k = 9 ∨ k = 15 ∨ k = 16 := by omega
  refine ⟨⟨by omega, by omega, by unfold partsOf; rw [if_pos (by omega)], h.ok, g.ok⟩, ?_, by have := h.size; have := g.size; simp only [Tm.size]; omega, ?_⟩
  · intro o ho
    rcases List.mem_cons.1 ho with rfl | ho
    · exact ⟨by simp only; omega, by simp only; omega, fun h => by simp only at h; omega, fun _ => rfl⟩
    · rcases List.mem_append.1 ho with ho | ho
      · exact h.fit o ho
      · exact g.fit o ho
  · have := h.cnt
    have := g.cnt
    simp only [Tm.flat, cntA, cntA_app]
    rcases hk with ⟨h1, h2⟩ | ⟨h1, h2⟩
    · rw [if_neg (by unfold aheadB; simp only [decide_eq_true_eq]; omega)]; omega
    · split <;> omega
theorem fm_yes : Fm (.n0 11 0) 1 0 := ⟨⟨by omega, by omega, by decide⟩, fun o ho => by
  simp only [Tm.flat, List.mem_singleton] at ho
  subst ho
  exact ⟨by simp, by simp, fun h => by simp at h, fun _ => rfl⟩, Nat.le_refl _, by simp [Tm.flat, cntA, aheadB]⟩
theorem fm_for (raw : List Op2) (k : Nat) : Fm (forO raw 3 k) 17 k := by
  have h1 := fT_small raw 3 4 k
  have h2 := fT_cnt raw 3 4 0 k
  exact ⟨fT_ok raw 3 4 0 k, fT_fit raw 3 4 0 k, by unfold forO; omega, by unfold forO; omega⟩

/-- A spell, as an argument reads. -/
theorem spell_of {W : World} {cs : Array Value} (h : Cells Tryd.prog W 40 cs.toList) : ∃ (aS aL : Option Addr) (cS cL : Nat) (S L : List Int), cs = #[.slice aS S.length cS, .slice aL L.length cL] ∧ Ints W (.slice aS S.length cS) S ∧ Ints W (.slice aL L.length cL) L ∧ (∀ n ∈ S, I64 n) ∧ ∀ n ∈ L, I64 n := by
  obtain ⟨hl, hf⟩ := h.field Tryd.underlying40
  have hsz : Tryd.prog.cellsOf 40 = 2 := by kernel_rfl
  have hs1 : Tryd.prog.cellsOf 25 = 1 := by kernel_rfl
  rw [hsz] at hl
  obtain ⟨l, rfl⟩ : ∃ l : List Value, cs = l.toArray := ⟨cs.toList, by simp⟩
  simp only at hl hf
  match l, hl with
  | [a, b], _ =>
    have h0 : Cells Tryd.prog W 25 [a] := by have := hf 0 _ rfl; simpa [hs1] using this
    have h1 : Cells Tryd.prog W 25 [b] := by have := hf 1 _ rfl; simpa [hs1] using this
    obtain ⟨u, S, e0, hS, iS⟩ := h0.ints Tryd.underlying25 Tryd.underlying3 (by kernel_rfl)
    obtain ⟨v, L, e1, hL, iL⟩ := h1.ints Tryd.underlying25 Tryd.underlying3 (by kernel_rfl)
    simp at e0 e1
    subst e0; subst e1
    have hS' := hS
    have hL' := hL
    obtain ⟨aS, cS, rfl, _⟩ := hS
    obtain ⟨aL, cL, rfl, _⟩ := hL
    exact ⟨aS, aL, cS, cL, S, L, rfl, hS', hL', iS, iL⟩

/-- Two cells of a box. -/
theorem two_later {w w' : World} {g : Nat} {u v : Value} (hb : Ext w w') (h : w.cell? ⟨g, 0, none⟩ = some u ∧ w.cell? ⟨g, 1, none⟩ = some v) : w'.cell? ⟨g, 0, none⟩ = some u ∧ w'.cell? ⟨g, 1, none⟩ = some v :=
  ⟨cell_later hb h.1, cell_later hb h.2⟩
theorem two_alloc {w : World} {o : Obj} {g : Nat} {u v : Value} (h : w.cell? ⟨g, 0, none⟩ = some u ∧ w.cell? ⟨g, 1, none⟩ = some v) : (w.alloc o).cell? ⟨g, 0, none⟩ = some u ∧ (w.alloc o).cell? ⟨g, 1, none⟩ = some v := two_later (ext_al (Ext.refl w) o) h
theorem two_drew {w : World} {g : Nat} {u v : Value} (h : w.cell? ⟨g, 0, none⟩ = some u ∧ w.cell? ⟨g, 1, none⟩ = some v) : w.drew.cell? ⟨g, 0, none⟩ = some u ∧ w.drew.cell? ⟨g, 1, none⟩ = some v := two_later (Below.drew (Ext.refl w)) h
theorem box_word (w : World) (sv lv : Value) (T : TypeId) : Ext w (((w.alloc (.cells #[.slice none 0 0, .slice none 0 0] T)).setCell ⟨w.heap.size, 0, none⟩ sv).setCell ⟨w.heap.size, 1, none⟩ lv) ∧
    (((w.alloc (.cells #[.slice none 0 0, .slice none 0 0] T)).setCell ⟨w.heap.size, 0, none⟩ sv).setCell ⟨w.heap.size, 1, none⟩ lv).cell? ⟨w.heap.size, 0, none⟩ = some sv ∧
    (((w.alloc (.cells #[.slice none 0 0, .slice none 0 0] T)).setCell ⟨w.heap.size, 0, none⟩ sv).setCell ⟨w.heap.size, 1, none⟩ lv).cell? ⟨w.heap.size, 1, none⟩ = some lv := by
  have hb := blk_new w (.cells #[.slice none 0 0, .slice none 0 0] T)
  have h1 := blk_set hb (i := 0) sv
  have h2 := blk_set h1 (i := 1) lv
  refine ⟨ext_st (ext_st (ext_al (Ext.refl w) _) (p := ⟨w.heap.size, 0, none⟩) (Nat.le_refl _) _) (p := ⟨w.heap.size, 1, none⟩) (Nat.le_refl _) _, ?_, ?_⟩
  · exact (World.cell?_of_block (a := ⟨w.heap.size, 0, none⟩) rfl).trans (blk_cell h2 (i := 0) (by simp))
  · exact (World.cell?_of_block (a := ⟨w.heap.size, 1, none⟩) rfl).trans (blk_cell h2 (i := 1) (by simp))

theorem isT_own {w : World} {base : Nat} {v : Value} {t : Tm} (h : w.ownsRow base 51 2 v t.flat.length (t.flat.flatMap opc)) : IsT w v t := ops_own h
theorem IsT.val {w : World} {v : Value} {t : Tm} (h : IsT w v t) : ∃ a n c, v = .slice a n c := by
  obtain ⟨a, c, rfl, _⟩ := h
  exact ⟨a, _, c, rfl⟩

/-- joined behind a region's draw. -/
theorem joinD2 (k : Int) (va vb : Value) (a b : Tm) (w : World) (T : TypeId) (ha : IsT w va a) (hb : IsT w vb b) (hl : a.size + b.size ≤ 10000) :
    Calls Tryd.prog 21 #[.int .i64 k, .slice (some ⟨w.heap.size, 0, none⟩) 2 2] (w.alloc (.cells #[va, vb] T)).drew fun e w' => ∃ v', e = .returned v' ∧ IsT w' v' (.n2 k 0 a b) ∧ Ext w w' :=
  (joinT2 k va vb a b w.drew T (ha.ext (Below.drew (Ext.refl w))) (hb.ext (Below.drew (Ext.refl w))) hl).mono fun _ _ ⟨v, h1, h2, h3⟩ => ⟨v, h1, h2, (Below.drew (Ext.refl w)).trans h3⟩
theorem joinD1 (k : Int) (va : Value) (a : Tm) (w : World) (T : TypeId) (ha : IsT w va a) (hl : a.size ≤ 10000) :
    Calls Tryd.prog 21 #[.int .i64 k, .slice (some ⟨w.heap.size, 0, none⟩) 1 1] (w.alloc (.cells #[va] T)).drew fun e w' => ∃ v', e = .returned v' ∧ IsT w' v' (.n1 k 0 a) ∧ Ext w w' :=
  (joinT1 k va a w.drew T (ha.ext (Below.drew (Ext.refl w))) hl).mono fun _ _ ⟨v, h1, h2, h3⟩ => ⟨v, h1, h2, (Below.drew (Ext.refl w)).trans h3⟩

/-- A list of one term, laid for a call. -/
def IsL1 (w : World) (s : Value) (a : Tm) : Prop := OpsL w s [a.flat]
theorem IsL1.ext {w w' : World} {s : Value} {a : Tm} (h : IsL1 w s a) (hb : Ext w w') : IsL1 w' s a := by
  obtain ⟨vs, hl, hr, he⟩ := h
  exact ⟨vs, hl, hr.ext hb, fun i x l hx hl' => ops_ext (he i x l hx hl') hb⟩
theorem il1_new (w : World) (T : TypeId) (va : Value) (a : Tm) (ha : IsT w va a) : IsL1 (w.alloc (.cells #[va] T)) (.slice (some ⟨w.heap.size, 0, none⟩) 1 1) a :=
  opsL_new w T [va] [a.flat] rfl (by simp [maxLen]) (by
    intro i x l hx hl'
    match i with
    | 0 => simp at hx hl'; subst hx; subst hl'; exact ha
    | i + 1 => simp at hx)
theorem two_args (w : World) (T : TypeId) (va vb : Value) (a b : Tm) (ha : IsT w va a) (hb : IsT w vb b) :
    IsL1 ((w.alloc (.cells #[va] T)).alloc (.cells #[vb] T)).drew (.slice (some ⟨w.heap.size, 0, none⟩) 1 1) a ∧ IsL1 ((w.alloc (.cells #[va] T)).alloc (.cells #[vb] T)).drew (.slice (some ⟨w.heap.size + 1, 0, none⟩) 1 1) b ∧ Ext w ((w.alloc (.cells #[va] T)).alloc (.cells #[vb] T)).drew := by
  have h1 : Ext w (w.alloc (.cells #[va] T)) := (Ext.refl w).alloc (Nat.le_refl _) _
  have h2 : Ext (w.alloc (.cells #[va] T)) ((w.alloc (.cells #[va] T)).alloc (.cells #[vb] T)).drew := ((Ext.refl _).alloc (Nat.le_refl _) _).drew
  refine ⟨(il1_new w T va a ha).ext h2, ?_, h1.trans h2⟩
  have := (il1_new (w.alloc (.cells #[va] T)) T vb b (hb.ext h1)).ext (Below.drew (Ext.refl _))
  simpa using this
theorem joinS1 (k : Int) (s : Value) (a : Tm) (w : World) (hs : IsL1 w s a) (hl : a.size ≤ 10000) :
    Calls Tryd.prog 21 #[.int .i64 k, s] w fun e w' => ∃ v', e = .returned v' ∧ IsT w' v' (.n1 k 0 a) ∧ Ext w w' := by
  refine (joined_any k s [a.flat] w hs (by simp [Tm.flat_len]; omega) (by simp)).mono ?_
  rintro e w' ⟨v', rfl, hown, hx⟩
  have e : joinL k [a.flat] = (k, 0) :: a.flat := by simp [joinL]
  rw [e] at hown
  exact ⟨v', rfl, ops_own hown, hx⟩

theorem holds_b (v sv lv : Value) (t : Tm) (Sm Lp : List (List Bool)) (w : World) (b : Bool) (h : IsT w v t) (ht : Tab w) {m c : Nat} (hf : Fm t m c) (hm : m ≤ 60) (hc : c ≤ 6) (hw : IsW w sv lv Sm Lp) (ho : WdOk Sm Lp 3) (hb : satB ⟨Sm ++ Lp, Sm.length⟩ t 0 = b) :
    Calls Tryd.prog 25 #[v, .agg #[sv, lv]] w fun e w' => e = .returned (.tuple #[.bool b, .bool true]) ∧ Ext w w' := by
  rw [← hb]
  exact holds_any v sv lv t Sm Lp w h ht (hf.isF hm hc) hw ho

end Go.Proofs.YtffjhhpikgodiaaDoor
