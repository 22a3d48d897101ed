/- JoinG: what is needed of it. No condition. -/
import Derived.Test.YthkiegaifkkegaaDoorJoin
namespace Go.Proofs.YthkiegaifkkegaaDoor
open Go.RowKit
theorem ops_own {w : World} {base : Nat} {v : Value} {l : List Op2} (h : w.ownsRow base 41 2 v l.length (l.flatMap opc)) : Ops w v l := by
  obtain ⟨a, c, rfl, hr⟩ := h.row
  exact ⟨a, c, rfl, hr⟩
theorem ops_ext {w w' : World} {v : Value} {l : List Op2} (h : Ops w v l) (hb : Ext w w') : Ops w' v l := by
  obtain ⟨a, c, rfl, hr⟩ := h
  exact ⟨a, c, rfl, hr.ext hb⟩
theorem opsL_new (w : World) (T : TypeId) (vs : List Value) (ll : List (List Op2)) (hl : vs.length = ll.length) (hm : vs.length ≤ maxLen) (h : ∀ (i : Nat) (x : Value) (l : List Op2), vs[i]? = some x → ll[i]? = some l → Ops w x l) :
    OpsL (w.alloc (.cells vs.toArray T)) (.slice (some ⟨w.heap.size, 0, none⟩) vs.length vs.length) ll := by
  refine ⟨vs, hl, ⟨_, _, by rw [hl], ?_⟩, fun i x l hx hl' => ops_ext (h i x l hx hl') ((Ext.refl w).alloc (Nat.le_refl _) _)⟩
  rw [← hl]
  exact Row.new w T vs hm
theorem join2 (k : Int) (va vb : Value) (la lb : List Op2) (w : World) (T : TypeId) (ha : Ops w va la) (hb : Ops w vb lb) (hl : la.length + lb.length ≤ 10000) :
    Calls Tryd.prog 9 #[.int .i64 k, .slice (some ⟨w.heap.size, 0, none⟩) 2 2] (w.alloc (.cells #[va, vb] T)) fun e w' => ∃ v', e = .returned v' ∧ Ops w' v' ((k, 0) :: (la ++ lb)) ∧ Ext w w' := by
  have hE : Ext w (w.alloc (.cells #[va, vb] T)) := (Ext.refl w).alloc (Nat.le_refl _) _
  have h := opsL_new w T [va, vb] [la, lb] rfl (by simp [maxLen]) (by
    intro i x l hx hl'
    match i with
    | 0 => simp at hx hl'; subst hx; subst hl'; exact ha
    | 1 => simp at hx hl'; subst hx; subst hl'; exact hb
    | i + 2 => simp at hx)
  refine (joined_any k _ [la, lb] _ h (by simp; omega) (by simp)).mono ?_
  rintro e w' ⟨v', rfl, hown, hx⟩
  have e : joinL k [la, lb] = (k, 0) :: (la ++ lb) := by simp [joinL]
  rw [e] at hown
  exact ⟨v', rfl, ops_own hown, hE.trans hx⟩
theorem join1 (k : Int) (va : Value) (la : List Op2) (w : World) (T : TypeId) (ha : Ops w va la) (hl : la.length ≤ 10000) :
    Calls Tryd.prog 9 #[.int .i64 k, .slice (some ⟨w.heap.size, 0, none⟩) 1 1] (w.alloc (.cells #[va] T)) fun e w' => ∃ v', e = .returned v' ∧ Ops w' v' ((k, 0) :: la) ∧ Ext w w' := by
  have hE : Ext w (w.alloc (.cells #[va] T)) := (Ext.refl w).alloc (Nat.le_refl _) _
  have h := opsL_new w T [va] [la] rfl (by simp [maxLen]) (by
    intro i x l hx hl'
    match i with
    | 0 => simp at hx hl'; subst hx; subst hl'; exact ha
    | i + 1 => simp at hx)
  refine (joined_any k _ [la] _ h (by simp; omega) (by simp)).mono ?_
  rintro e w' ⟨v', rfl, hown, hx⟩
  have e : joinL k [la] = (k, 0) :: la := by simp [joinL]
  rw [e] at hown
  exact ⟨v', rfl, ops_own hown, hE.trans hx⟩
def IsT (w : World) (v : Value) (t : Tm) : Prop := Ops w v t.flat
theorem IsT.ext {w w' : World} {v : Value} {t : Tm} (h : IsT w v t) (hb : Ext w w') : IsT w' v t := ops_ext h hb
theorem isT_own {w : World} {base : Nat} {v : Value} {t : Tm} (h : w.ownsRow base 41 2 v t.flat.length (t.flat.flatMap opc)) : IsT w v t := ops_own h
theorem IsT.val {w : World} {v : Value} {t : Tm} (h : IsT w v t) : ∃ a n c, v = .slice a n c := by
  obtain ⟨a, c, rfl, _⟩ := h
  exact ⟨_, _, _, rfl⟩
theorem joinT2 (k : Int) (va vb : Value) (a b : Tm) (w : World) (T : TypeId) (ha : IsT w va a) (hb : IsT w vb b) (hl : a.size + b.size ≤ 10000) :
    Calls Tryd.prog 9 #[.int .i64 k, .slice (some ⟨w.heap.size, 0, none⟩) 2 2] (w.alloc (.cells #[va, vb] T)) fun e w' => ∃ v', e = .returned v' ∧ IsT w' v' (.n2 k 0 a b) ∧ Ext w w' :=
  join2 k va vb a.flat b.flat w T ha hb (by simpa [Tm.flat_len] using hl)
theorem joinT1 (k : Int) (va : Value) (a : Tm) (w : World) (T : TypeId) (ha : IsT w va a) (hl : a.size ≤ 10000) :
    Calls Tryd.prog 9 #[.int .i64 k, .slice (some ⟨w.heap.size, 0, none⟩) 1 1] (w.alloc (.cells #[va] T)) fun e w' => ∃ v', e = .returned v' ∧ IsT w' v' (.n1 k 0 a) ∧ Ext w w' :=
  join1 k va a.flat w T ha (by simpa [Tm.flat_len] using hl)
end Go.Proofs.YthkiegaifkkegaaDoor
