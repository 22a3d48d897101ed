/- What the laws of the counter need. -/
import Derived.Test.YtbmimdnpchldlaaDoorRingM
import Derived.Test.YtbmimdnpchldlaaDoorKd20
import Derived.Test.YtbmimdnpchldlaaDoorKd34
import Derived.ArgAppend
namespace Go.Proofs.YtbmimdnpchldlaaDoor
open Go.RowKit

/-- A formula over one proposition. -/
structure Fq (t : Tm) (m c : Nat) : Prop where
  ok : t.ok
  fit : ∀ o ∈ t.flat, FitOp 1 o
  size : t.size ≤ m
  cnt : cntA t.flat ≤ c
theorem Fq.isF {t : Tm} {m c : Nat} (h : Fq t m c) (hm : m ≤ 60) (hc : c ≤ 6) : IsF t.flat 1 t := ⟨h.ok, rfl, by have := h.size; omega, h.fit, by have := h.cnt; omega, by omega, by omega⟩
theorem Fq.one {t : Tm} {m c : Nat} (h : Fq t m c) (k : Int) (m' c' : Nat) (hk : (k = 10 ∧ c ≤ c') ∨ ((k = 14 ∨ k = 17 ∨ k = 18) ∧ c + 1 ≤ c')) (hm : m + 1 ≤ m') : Fq (.n1 k 0 t) m' c' := by
  have hk2 : k = 10 ∨ k = 14 ∨ k = 17 ∨ k = 18 := by omega
  refine ⟨⟨by omega, by omega, by unfold partsOf; rw [if_neg (by omega), if_pos (by omega)], h.ok⟩, ?_, by have := h.size; simp only [Tm.size]; omega, ?_⟩
  · intro o ho
    rcases List.mem_cons.1 ho with rfl | ho
    · exact ⟨by simp only; omega, by simp only; omega, fun h => by simp only at h; omega, fun _ => rfl⟩
    · exact h.fit o ho
  · have := h.cnt
    simp only [Tm.flat, cntA]
    rcases hk with ⟨rfl, h1⟩ | ⟨h1, h2⟩
    · simp [aheadB]; omega
    · split <;> omega
theorem Fq.two {a b : Tm} {m c n d : Nat} (h : Fq a m c) (g : Fq b n d) (k : Int) (m' c' : Nat) (hk : (k = 8 ∨ k = 9) ∧ c + d ≤ c') (hm : m + n + 1 ≤ m') : Fq (.n2 k 0 a b) m' c' := by
  refine ⟨⟨by omega, by omega, by unfold partsOf; rw [if_pos (by omega)], h.ok, g.ok⟩, ?_, by have := h.size; have := g.size; simp only [Tm.size]; omega, ?_⟩
  · intro o ho
    rcases List.mem_cons.1 ho with rfl | ho
    · exact ⟨by simp only; omega, by simp only; omega, fun h => by simp only at h; omega, fun _ => rfl⟩
    · rcases List.mem_append.1 ho with ho | ho
      · exact h.fit o ho
      · exact g.fit o ho
  · have := h.cnt
    have := g.cnt
    simp only [Tm.flat, cntA, cntA_app]
    rw [if_neg (by unfold aheadB; simp only [decide_eq_true_eq]; omega)]; omega
theorem fq_prop : Fq (.n0 13 0) 1 0 := ⟨⟨by omega, by omega, by decide⟩, fun o ho => by
  simp only [Tm.flat, List.mem_singleton] at ho
  subst ho
  exact ⟨by simp, by simp, fun _ => ⟨by simp, by simp⟩, fun h => by simp at h⟩, Nat.le_refl _, by simp [Tm.flat, cntA, aheadB]⟩
theorem fq_nexts : ∀ n, Fq (nextT n (.n0 13 0)) (n + 1) n
  | 0 => fq_prop
  | n + 1 => (fq_nexts n).one 14 _ _ (.inr ⟨by omega, by omega⟩) (by omega)
theorem pow_room {M n : Nat} (h9 : M ≤ 9) (hn : n ≤ 6) : M * 2 ^ n ≤ 20000 :=
  Nat.le_trans (Nat.mul_le_mul h9 (Nat.pow_le_pow_right (n := 2) (by omega) hn)) (by decide)

theorem isTms_one {w : World} {a : Value} {x : Tm} (T : TypeId) (ha : IsT w a x) : IsTms (w.alloc (.cells #[a] T)) (.slice (some ⟨w.heap.size, 0, none⟩) 1 1) [x] := by
  have hE := ext_al (Ext.refl w) (Obj.cells #[a] T)
  refine ⟨[[a]], rfl, by simp, ⟨_, _, rfl, Row.new w T [a] (by simp [maxLen])⟩, fun i cs s h1 h2 => ?_⟩
  match i with
  | 0 => simp at h1 h2; subst h1; subst h2; exact ⟨a, rfl, ha.ext hE⟩
  | i + 1 => simp at h1

/-- The proposition, joined behind its two literals. -/
theorem kRing (v : Int) (w : World) (T T1 T2 : TypeId) :
    Calls Tryd.prog 11 #[.int .i64 6, .slice (some ⟨w.heap.size + 1 + 1, 0, none⟩) 2 2] (((w.alloc (.cells #[.int .i64 2, .int .i64 0] T1)).alloc (.cells #[.int .i64 1, .int .i64 v] T2)).alloc (.cells #[.slice (some ⟨w.heap.size, 0, none⟩) 1 1, .slice (some ⟨w.heap.size + 1, 0, none⟩) 1 1] T)) fun e w' => ∃ v', e = .returned v' ∧ IsT w' v' (ringT v) ∧ Ext w w' := by
  have hx := ext_al (Ext.refl w) (.cells #[.int .i64 2, .int .i64 0] T1)
  have hy := ext_al (Ext.refl (w.alloc (.cells #[.int .i64 2, .int .i64 0] T1))) (.cells #[.int .i64 1, .int .i64 v] T2)
  have h := kT2 6 (.slice (some ⟨w.heap.size, 0, none⟩) 1 1) (.slice (some ⟨w.heap.size + 1, 0, none⟩) 1 1) (.n0 2 0) (.n0 1 v) ((w.alloc (.cells #[.int .i64 2, .int .i64 0] T1)).alloc (.cells #[.int .i64 1, .int .i64 v] T2)) T
    ((isT_lit w T1 2 0 _ rfl).ext hy) (isT_lit (w.alloc (.cells #[.int .i64 2, .int .i64 0] T1)) T2 1 v _ (by simp)) (by simp only [Tm.size]; omega)
  rw [World.size_alloc, World.size_alloc] at h
  refine h.mono ?_
  rintro e w' ⟨v', h1, h2, h3⟩
  exact ⟨v', h1, h2, (hx.trans hy).trans h3⟩

theorem rules_moreR {w : World} {v : Value} {n : Nat} {l : List Rl} {r : Rl} {css : List (List Value)} {cs : List Value} (hl : css.length = l.length) (hn : n = l.length + 1) (h2 : ∀ c ∈ css, c.length = 2) (hc : cs.length = 2) (hr : Reads w 2 v n (css.flatten ++ cs)) (he : ∀ (i : Nat) (c : List Value) (x : Rl), css[i]? = some c → l[i]? = some x → RuleE w x c) (hx : RuleE w r cs) : IsRules w v (l ++ [r]) := by
  refine ⟨css ++ [cs], by simp [hl], fun c h => ?_, by rw [List.length_append, List.flatten_append]; subst hn; simpa using hr, fun i c x h1 h2 => ?_⟩
  · rcases List.mem_append.1 h with h | h
    · exact h2 c h
    · obtain rfl := List.mem_singleton.1 h; exact hc
  · by_cases hi : i < css.length
    · rw [List.getElem?_append_left hi] at h1
      rw [List.getElem?_append_left (by omega)] at h2
      exact he i c x h1 h2
    · rw [List.getElem?_append_right (by omega)] at h1
      rw [List.getElem?_append_right (by omega)] at h2
      have e : i - css.length = 0 := by have := (List.getElem?_eq_some_iff.1 h1).1; simp at this; omega
      rw [e] at h1
      rw [← hl, e] at h2
      simp at h1 h2
      subst h1; subst h2; exact hx

/-- A task's box, before and behind a store of its formula. -/
theorem tb_four {w : World} {g : Nat} {a b c d : Value} {T : TypeId} (h : w.heap[g]? = some (.cells #[a, b, c, d] T (0, 0))) :
    w.cell? ⟨g, 0, none⟩ = some a ∧ w.cell? ⟨g, 1, none⟩ = some b ∧ w.cell? ⟨g, 2, none⟩ = some c ∧ w.cell? ⟨g, 3, none⟩ = some d := ⟨blk_cell h rfl, blk_cell h rfl, blk_cell h rfl, blk_cell h rfl⟩
theorem tb_set {w : World} {g : Nat} {a b c d u : Value} {T : TypeId} (h : w.heap[g]? = some (.cells #[a, b, c, d] T (0, 0))) : (w.setCell ⟨g, 3, none⟩ u).heap[g]? = some (.cells #[a, b, c, u] T (0, 0)) := by
  have := blk_set (i := 3) h u
  rwa [(set4 _ _ _ _ _).2.2.2] at this
theorem tb_isT {w : World} {g : Nat} {T : TypeId} {v u : Value} {t : Tm} {a1 a2 a3 a4 : Option Addr} {n1 n2 n3 n4 c1 c2 c3 c4 : Nat} (h : IsT w v t) (hb : w.heap[g]? = some (.cells #[.slice a1 n1 c1, .slice a2 n2 c2, .slice a3 n3 c3, .slice a4 n4 c4] T (0, 0))) : IsT (w.setCell ⟨g, 3, none⟩ u) v t :=
  isT_F h (fun i u hu => by
    match i with
    | 0 => simp at hu; exact ⟨_, _, _, hu.symm⟩
    | 1 => simp at hu; exact ⟨_, _, _, hu.symm⟩
    | 2 => simp at hu; exact ⟨_, _, _, hu.symm⟩
    | 3 => simp at hu; exact ⟨_, _, _, hu.symm⟩
    | i + 4 => simp at hu) hb (grown_setP w ⟨g, 3, none⟩ u)
/-- A verdict's box stays. -/
theorem vb_set {w : World} {g q : Nat} {a1 : Option Addr} {n1 c1 : Nat} {b c d u : Value} {x : Bool} {y z : Value} {T T2 : TypeId} (h : w.heap[g]? = some (.cells #[.bool x, y, z] T (0, 0))) (hb : w.heap[q]? = some (.cells #[.slice a1 n1 c1, b, c, d] T2 (0, 0))) : (w.setCell ⟨q, 3, none⟩ u).heap[g]? = some (.cells #[.bool x, y, z] T (0, 0)) :=
  blk_far h (p := ⟨q, 3, none⟩) (fun (e : q = g) => by subst e; rw [h] at hb; simp at hb) u
theorem vb_eq {m : Md} {P : List Tm} {t : Tm} {b c : Bool} (h : b = true ↔ HoldsR m P t) (hc : holdsB m P t = c) : b = c := by
  rw [← holdsB_iff, hc] at h
  cases b <;> cases c <;> simp_all

end Go.Proofs.YtbmimdnpchldlaaDoor
