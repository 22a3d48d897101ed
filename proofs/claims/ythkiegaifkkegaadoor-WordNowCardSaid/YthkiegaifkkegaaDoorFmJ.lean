/- Formulas by their size; terms joined in a region that draws. No condition on any program but the contracts of joined. -/
import Derived.Test.YthkiegaifkkegaaDoorJoinG
import Derived.Test.YthkiegaifkkegaaDoorFormC
import Derived.Test.YthkiegaifkkegaaDoorLogA
import Derived.Deep.RegionHeld3
import Derived.BigQuiet
namespace Go.Proofs.YthkiegaifkkegaaDoor
open Go.RowKit
structure Fm (t : Tm) (m c : Nat) : Prop where
  ok : t.ok
  fit : ∀ o ∈ t.flat, FitOp 3 o
  size : t.size ≤ m
  cnt : cntA t.flat ≤ c
theorem Fm.isF {t : Tm} {m c : Nat} (h : Fm t m c) (hm : m ≤ 60) (hc : c ≤ 6) : IsF t.flat 3 t := ⟨h.ok, rfl, by have := h.size; omega, h.fit, by have := h.cnt; omega, by omega, by omega⟩
theorem Fm.one {t : Tm} {m c : Nat} (h : Fm t m c) (k : Int) (m' c' : Nat) (hk : (k = 10 ∧ c ≤ c') ∨ ((k = 14 ∨ k = 17 ∨ k = 18) ∧ c + 1 ≤ c')) (hm : m + 1 ≤ m') : Fm (.n1 k 0 t) m' c' := by
  have hk2 : k = 10 ∨ k = 14 ∨ k = 17 ∨ k = 18 := by omega
  refine ⟨⟨by omega, by omega, by unfold partsOf; rw [if_neg (by omega), if_pos (by omega)], h.ok⟩, ?_, by have := h.size; simp only [Tm.size]; omega, ?_⟩
  · intro o ho
    rcases List.mem_cons.1 ho with rfl | ho
    · exact ⟨by simp only; omega, by simp only; omega, fun h => by simp only at h; omega, fun _ => rfl⟩
    · exact h.fit o ho
  · have := h.cnt
    simp only [Tm.flat, cntA]
    rcases hk with ⟨rfl, h1⟩ | ⟨h1, h2⟩
    · simp [aheadB]; omega
    · split <;> omega
theorem Fm.two {a b : Tm} {m c n d : Nat} (h : Fm a m c) (g : Fm b n d) (k : Int) (m' c' : Nat) (hk : ((k = 8 ∨ k = 9) ∧ c + d ≤ c') ∨ ((k = 15 ∨ k = 16) ∧ c + d + 1 ≤ c')) (hm : m + n + 1 ≤ m') : Fm (.n2 k 0 a b) m' c' := by
  have hk2 : k = 8 ∨ k = 9 ∨ k = 15 ∨ k = 16 := by omega
  refine ⟨⟨by omega, by omega, by unfold partsOf; rw [if_pos (by omega)], h.ok, g.ok⟩, ?_, by have := h.size; have := g.size; simp only [Tm.size]; omega, ?_⟩
  · intro o ho
    rcases List.mem_cons.1 ho with rfl | ho
    · exact ⟨by simp only; omega, by simp only; omega, fun h => by simp only at h; omega, fun _ => rfl⟩
    · rcases List.mem_append.1 ho with ho | ho
      · exact h.fit o ho
      · exact g.fit o ho
  · have := h.cnt
    have := g.cnt
    simp only [Tm.flat, cntA, cntA_app]
    rcases hk with ⟨h1, h2⟩ | ⟨h1, h2⟩
    · rw [if_neg (by unfold aheadB; simp only [decide_eq_true_eq]; omega)]; omega
    · split <;> omega
theorem fm_yes : Fm (.n0 11 0) 1 0 := ⟨⟨by omega, by omega, by decide⟩, fun o ho => by
  simp only [Tm.flat, List.mem_singleton] at ho
  subst ho
  exact ⟨by simp, by simp, fun h => by simp at h, fun _ => rfl⟩, Nat.le_refl _, by simp [Tm.flat, cntA, aheadB]⟩
theorem fm_for (raw : List Op2) (k : Nat) : Fm (forO raw 3 k) 17 k := by
  have h1 := fT_small raw 3 4 k
  have h2 := fT_cnt raw 3 4 0 k
  exact ⟨fT_ok raw 3 4 0 k, fT_fit raw 3 4 0 k, by unfold forO; omega, by unfold forO; omega⟩
theorem two_later {w w' : World} {g : Nat} {u v : Value} (hb : Ext w w') (h : w.cell? ⟨g, 0, none⟩ = some u ∧ w.cell? ⟨g, 1, none⟩ = some v) : w'.cell? ⟨g, 0, none⟩ = some u ∧ w'.cell? ⟨g, 1, none⟩ = some v :=
  ⟨cell_later hb h.1, cell_later hb h.2⟩
theorem two_alloc {w : World} {o : Obj} {g : Nat} {u v : Value} (h : w.cell? ⟨g, 0, none⟩ = some u ∧ w.cell? ⟨g, 1, none⟩ = some v) : (w.alloc o).cell? ⟨g, 0, none⟩ = some u ∧ (w.alloc o).cell? ⟨g, 1, none⟩ = some v := two_later (ext_al (Ext.refl w) o) h
theorem two_drew {w : World} {g : Nat} {u v : Value} (h : w.cell? ⟨g, 0, none⟩ = some u ∧ w.cell? ⟨g, 1, none⟩ = some v) : w.drew.cell? ⟨g, 0, none⟩ = some u ∧ w.drew.cell? ⟨g, 1, none⟩ = some v := two_later (Below.drew (Ext.refl w)) h
theorem joinD2 (k : Int) (va vb : Value) (a b : Tm) (w : World) (T : TypeId) (ha : IsT w va a) (hb : IsT w vb b) (hl : a.size + b.size ≤ 10000) :
    Calls Tryd.prog 9 #[.int .i64 k, .slice (some ⟨w.heap.size, 0, none⟩) 2 2] (w.alloc (.cells #[va, vb] T)).drew fun e w' => ∃ v', e = .returned v' ∧ IsT w' v' (.n2 k 0 a b) ∧ Ext w w' :=
  (joinT2 k va vb a b w.drew T (ha.ext (Below.drew (Ext.refl w))) (hb.ext (Below.drew (Ext.refl w))) hl).mono fun _ _ ⟨v, h1, h2, h3⟩ => ⟨v, h1, h2, (Below.drew (Ext.refl w)).trans h3⟩
theorem joinD1 (k : Int) (va : Value) (a : Tm) (w : World) (T : TypeId) (ha : IsT w va a) (hl : a.size ≤ 10000) :
    Calls Tryd.prog 9 #[.int .i64 k, .slice (some ⟨w.heap.size, 0, none⟩) 1 1] (w.alloc (.cells #[va] T)).drew fun e w' => ∃ v', e = .returned v' ∧ IsT w' v' (.n1 k 0 a) ∧ Ext w w' :=
  (joinT1 k va a w.drew T (ha.ext (Below.drew (Ext.refl w))) hl).mono fun _ _ ⟨v, h1, h2, h3⟩ => ⟨v, h1, h2, (Below.drew (Ext.refl w)).trans h3⟩
def IsL1 (w : World) (s : Value) (a : Tm) : Prop := OpsL w s [a.flat]
theorem IsL1.ext {w w' : World} {s : Value} {a : Tm} (h : IsL1 w s a) (hb : Ext w w') : IsL1 w' s a := by
  obtain ⟨vs, hl, hr, he⟩ := h
  exact ⟨vs, hl, hr.ext hb, fun i x l hx hl' => ops_ext (he i x l hx hl') hb⟩
theorem il1_new (w : World) (T : TypeId) (va : Value) (a : Tm) (ha : IsT w va a) : IsL1 (w.alloc (.cells #[va] T)) (.slice (some ⟨w.heap.size, 0, none⟩) 1 1) a :=
  opsL_new w T [va] [a.flat] rfl (by simp [maxLen]) (by
    intro i x l hx hl'
    match i with
    | 0 => simp at hx hl'; subst hx; subst hl'; exact ha
    | i + 1 => simp at hx)
theorem two_args (w : World) (T : TypeId) (va vb : Value) (a b : Tm) (ha : IsT w va a) (hb : IsT w vb b) :
    IsL1 ((w.alloc (.cells #[va] T)).alloc (.cells #[vb] T)).drew (.slice (some ⟨w.heap.size, 0, none⟩) 1 1) a ∧ IsL1 ((w.alloc (.cells #[va] T)).alloc (.cells #[vb] T)).drew (.slice (some ⟨w.heap.size + 1, 0, none⟩) 1 1) b ∧ Ext w ((w.alloc (.cells #[va] T)).alloc (.cells #[vb] T)).drew := by
  have h1 : Ext w (w.alloc (.cells #[va] T)) := (Ext.refl w).alloc (Nat.le_refl _) _
  have h2 : Ext (w.alloc (.cells #[va] T)) ((w.alloc (.cells #[va] T)).alloc (.cells #[vb] T)).drew := ((Ext.refl _).alloc (Nat.le_refl _) _).drew
  refine ⟨(il1_new w T va a ha).ext h2, ?_, h1.trans h2⟩
  have := (il1_new (w.alloc (.cells #[va] T)) T vb b (hb.ext h1)).ext (Below.drew (Ext.refl _))
  simpa using this
theorem joinS1 (k : Int) (s : Value) (a : Tm) (w : World) (hs : IsL1 w s a) (hl : a.size ≤ 10000) :
    Calls Tryd.prog 9 #[.int .i64 k, s] w fun e w' => ∃ v', e = .returned v' ∧ IsT w' v' (.n1 k 0 a) ∧ Ext w w' := by
  refine (joined_any k s [a.flat] w hs (by simp [Tm.flat_len]; omega) (by simp)).mono ?_
  rintro e w' ⟨v', rfl, hown, hx⟩
  have e : joinL k [a.flat] = (k, 0) :: a.flat := by simp [joinL]
  rw [e] at hown
  exact ⟨v', rfl, ops_own hown, hx⟩
end Go.Proofs.YthkiegaifkkegaaDoor
