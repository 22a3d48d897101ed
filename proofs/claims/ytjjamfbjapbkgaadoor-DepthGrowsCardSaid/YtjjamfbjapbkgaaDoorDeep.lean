/- Plain: how deep a term is. -/
import Derived.Test.YtjjamfbjapbkgaaDoorTermB
namespace Go.Proofs.YtjjamfbjapbkgaaDoor

/-- How many of the first k ends lie behind a place. -/
def cntL (es : List Int) (at' : Nat) (k : Nat) : Nat := (es.take k).countP (fun x => decide ((at' : Int) < x))

theorem cntL_succ (es : List Int) (at' k : Nat) (h : k < es.length) : cntL es at' (k + 1) = cntL es at' k + if (at' : Int) < es[k] then 1 else 0 := by
  unfold cntL
  rw [List.take_succ_eq_append_getElem h, List.countP_append]
  simp [List.countP_cons]

/-- The greatest of n numbers. -/
def mostL (f : Nat → Nat) : Nat → Nat
  | 0 => 0
  | n + 1 => max (mostL f n) (f n)

def IsMax (f : Nat → Nat) (n m : Nat) : Prop := (∀ i, i < n → f i ≤ m) ∧ ∃ i, i < n ∧ f i = m

theorem mostL_le {f : Nat → Nat} {n m : Nat} (h : ∀ i, i < n → f i ≤ m) : mostL f n ≤ m := by
  induction n with
  | zero => exact Nat.zero_le _
  | succ n ih =>
    have := ih fun i hi => h i (by omega)
    have := h n (by omega)
    simp only [mostL]
    omega

theorem le_mostL {f : Nat → Nat} {n i : Nat} (h : i < n) : f i ≤ mostL f n := by
  induction n with
  | zero => omega
  | succ n ih =>
    simp only [mostL]
    by_cases hi : i = n
    · subst hi; omega
    · have := ih (by omega); omega

theorem IsMax.eq {f : Nat → Nat} {n m : Nat} (h : IsMax f n m) : mostL f n = m := by
  obtain ⟨i, hi, he⟩ := h.2
  have := mostL_le h.1
  have := le_mostL (f := f) hi
  omega

def Tm.deep : Tm → Nat
  | .n0 _ _ => 1
  | .n1 _ _ a => a.deep + 1
  | .n2 _ _ a b => max a.deep b.deep + 1

theorem Tm.deep_pos (t : Tm) : 1 ≤ t.deep := by cases t <;> simp [Tm.deep]
theorem Tm.deep_le (t : Tm) : t.deep ≤ t.size := by
  induction t with
  | n0 => simp [Tm.deep, Tm.size]
  | n1 k v a ih => simp only [Tm.deep, Tm.size]; omega
  | n2 k v a b ih1 ih2 => simp only [Tm.deep, Tm.size]; omega

theorem ends_le (t : Tm) (p : Nat) : ∀ x ∈ t.ends p, x ≤ ((p + t.size : Nat) : Int) := by
  intro x hx
  obtain ⟨i, hi, rfl⟩ := List.mem_iff_getElem.1 hx
  have := ((ends_nest t p).1 i hi).2
  omega

theorem cnt_none (t : Tm) (p at' : Nat) (h : p + t.size ≤ at') : (t.ends p).countP (fun x => decide ((at' : Int) < x)) = 0 := by
  rw [List.countP_eq_zero]
  intro x hx
  have := ends_le t p x hx
  simp
  omega

theorem deep_max (t : Tm) : ∀ p, IsMax (fun i => cntL (t.ends p) (p + i) (i + 1)) t.size t.deep := by
  induction t with
  | n0 k v =>
    intro p
    refine ⟨fun i hi => ?_, 0, by simp [Tm.size], ?_⟩
    · simp only [Tm.size] at hi
      obtain rfl : i = 0 := by omega
      simp [cntL, Tm.ends, Tm.deep, List.countP_cons]
      split <;> omega
    · simp [cntL, Tm.ends, Tm.deep, List.countP_cons]
      omega
  | n1 k v a ih =>
    intro p
    have hp := a.size_pos
    have step : ∀ i, i < a.size → cntL ((Tm.n1 k v a).ends p) (p + (i + 1)) (i + 1 + 1) = cntL (a.ends (p + 1)) (p + 1 + i) (i + 1) + 1 := by
      intro i hi
      simp only [cntL, Tm.ends, List.take_succ_cons, List.countP_cons]
      rw [if_pos (by simp; omega), show p + (i + 1) = p + 1 + i by omega]
    have zero : cntL ((Tm.n1 k v a).ends p) (p + 0) (0 + 1) ≤ 1 := by
      unfold cntL
      refine Nat.le_trans (List.countP_le_length) (by rw [List.length_take]; omega)
    obtain ⟨h1, i0, hi0, he0⟩ := ih (p + 1)
    refine ⟨fun i hi => ?_, i0 + 1, by simp only [Tm.size]; omega, ?_⟩
    · simp only [Tm.size] at hi
      cases i with
      | zero => have := a.deep_pos; simp only [Tm.deep]; exact Nat.le_trans zero (by omega)
      | succ i => have := h1 i (by omega); show cntL _ (p + (i + 1)) (i + 1 + 1) ≤ _; rw [step i (by omega)]; simp only [Tm.deep]; simp only at this; omega
    · show cntL ((Tm.n1 k v a).ends p) (p + (i0 + 1)) (i0 + 1 + 1) = _
      rw [step i0 hi0]
      simp only [Tm.deep]
      have := he0
      simp only at this
      omega
  | n2 k v a b ih1 ih2 =>
    intro p
    have hp := a.size_pos
    have hp2 := b.size_pos
    have stepa : ∀ i, i < a.size → cntL ((Tm.n2 k v a b).ends p) (p + (i + 1)) (i + 1 + 1) = cntL (a.ends (p + 1)) (p + 1 + i) (i + 1) + 1 := by
      intro i hi
      simp only [cntL, Tm.ends, List.take_succ_cons, List.countP_cons]
      rw [if_pos (by simp; omega), show p + (i + 1) = p + 1 + i by omega, List.take_append_of_le_length (by rw [Tm.ends_len]; omega)]
    have stepb : ∀ i, i < b.size → cntL ((Tm.n2 k v a b).ends p) (p + (a.size + i + 1)) (a.size + i + 1 + 1) = cntL (b.ends (p + 1 + a.size)) (p + 1 + a.size + i) (i + 1) + 1 := by
      intro i hi
      simp only [cntL, Tm.ends, List.take_succ_cons, List.countP_cons]
      rw [if_pos (by simp; omega), show p + (a.size + i + 1) = p + 1 + a.size + i by omega, show a.size + i + 1 = a.size + (i + 1) by omega]
      have e : (a.ends (p + 1) ++ b.ends (p + 1 + a.size)).take (a.size + (i + 1)) = a.ends (p + 1) ++ (b.ends (p + 1 + a.size)).take (i + 1) := by
        have := List.take_length_add_append (l₁ := a.ends (p + 1)) (l₂ := b.ends (p + 1 + a.size)) (i + 1)
        rwa [Tm.ends_len] at this
      rw [e, List.countP_append, cnt_none a (p + 1) _ (by omega)]
      omega
    have zero : cntL ((Tm.n2 k v a b).ends p) (p + 0) (0 + 1) ≤ 1 := by
      unfold cntL
      refine Nat.le_trans (List.countP_le_length) (by rw [List.length_take]; omega)
    obtain ⟨h1, i0, hi0, he0⟩ := ih1 (p + 1)
    obtain ⟨h2, i1, hi1, he1⟩ := ih2 (p + 1 + a.size)
    simp only at he0 he1
    refine ⟨fun i hi => ?_, ?_⟩
    · simp only [Tm.size] at hi
      cases i with
      | zero => have := a.deep_pos; simp only [Tm.deep]; exact Nat.le_trans zero (by omega)
      | succ i =>
        by_cases hi2 : i < a.size
        · have := h1 i hi2; show cntL _ (p + (i + 1)) (i + 1 + 1) ≤ _; rw [stepa i hi2]; simp only [Tm.deep]; simp only at this; omega
        · have := h2 (i - a.size) (by omega)
          have e := stepb (i - a.size) (by omega)
          rw [show a.size + (i - a.size) = i by omega] at e
          show cntL _ (p + (i + 1)) (i + 1 + 1) ≤ _
          simp only at this
          rw [e]; simp only [Tm.deep]; omega
    · by_cases hm : b.deep ≤ a.deep
      · refine ⟨i0 + 1, by simp only [Tm.size]; omega, ?_⟩
        show cntL ((Tm.n2 k v a b).ends p) (p + (i0 + 1)) (i0 + 1 + 1) = _
        rw [stepa i0 hi0]; simp only [Tm.deep]; omega
      · refine ⟨a.size + i1 + 1, by simp only [Tm.size]; omega, ?_⟩
        show cntL ((Tm.n2 k v a b).ends p) (p + (a.size + i1 + 1)) (a.size + i1 + 1 + 1) = _
        rw [stepb i1 hi1]; simp only [Tm.deep]; omega

theorem deep_most (t : Tm) : mostL (fun i => cntL (t.ends 0) i (i + 1)) t.size = t.deep := by
  have := (deep_max t 0).eq
  simpa using this

end Go.Proofs.YtjjamfbjapbkgaaDoor
