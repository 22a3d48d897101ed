/- TermB: what is needed of it. No condition. -/
import Derived.Test.YtopkbjfjncpjdaaDoorTerm
namespace Go.Proofs.YtopkbjfjncpjdaaDoor
theorem ends_nest (t : Tm) : ∀ p, (∀ i (h : i < (t.ends p).length), (p : Int) + i < (t.ends p)[i] ∧ (t.ends p)[i] ≤ p + t.size) ∧
    (∀ i k (hi : i < (t.ends p).length) (hk : k < (t.ends p).length), i < k → (p : Int) + k < (t.ends p)[i] → (t.ends p)[k] ≤ (t.ends p)[i]) := by
  induction t with
  | n0 k v =>
    intro p
    refine ⟨fun i h => ?_, fun i k hi hk h1 h2 => ?_⟩
    · simp [Tm.ends] at h; subst h; simp [Tm.ends, Tm.size]; omega
    · simp [Tm.ends] at hi hk; omega
  | n1 k v a ih =>
    intro p
    obtain ⟨h1, h2⟩ := ih (p + 1)
    have hl := a.ends_len (p + 1)
    refine ⟨fun i h => ?_, fun i k hi hk g1 g2 => ?_⟩
    · cases i with
      | zero => simp [Tm.ends, Tm.size]; have := a.size_pos; omega
      | succ i =>
        have := h1 i (by simpa [Tm.ends] using h)
        simp only [Tm.ends, Tm.size, List.getElem_cons_succ]
        omega
    · cases k with
      | zero => omega
      | succ k =>
        have hk' : k < (a.ends (p + 1)).length := by simpa [Tm.ends] using hk
        have hk2 := h1 k hk'
        cases i with
        | zero =>
          simp only [Tm.ends, List.getElem_cons_succ, List.getElem_cons_zero]
          omega
        | succ i =>
          simp only [Tm.ends, List.getElem_cons_succ] at g2 ⊢
          exact h2 i k (by simpa [Tm.ends] using hi) hk' (by omega) (by omega)
  | n2 k v a b iha ihb =>
    intro p
    obtain ⟨a1, a2⟩ := iha (p + 1)
    obtain ⟨b1, b2⟩ := ihb (p + 1 + a.size)
    have hla := a.ends_len (p + 1)
    have hlb := b.ends_len (p + 1 + a.size)
    have hall : ∀ i (h : i < (a.ends (p + 1) ++ b.ends (p + 1 + a.size)).length), ((p + 1 : Nat) : Int) + i < (a.ends (p + 1) ++ b.ends (p + 1 + a.size))[i] ∧ (a.ends (p + 1) ++ b.ends (p + 1 + a.size))[i] ≤ ((p + 1 + a.size + b.size : Nat) : Int) := by
      intro i h
      by_cases hi : i < (a.ends (p + 1)).length
      · rw [List.getElem_append_left hi]
        have := a1 i hi
        omega
      · rw [List.getElem_append_right (by omega)]
        have := b1 (i - (a.ends (p + 1)).length) (by simp at h; omega)
        omega
    refine ⟨fun i h => ?_, fun i k hi hk g1 g2 => ?_⟩
    · cases i with
      | zero => simp [Tm.ends, Tm.size]; omega
      | succ i =>
        have := hall i (by simpa [Tm.ends] using h)
        simp only [Tm.ends, Tm.size, List.getElem_cons_succ]
        omega
    · cases k with
      | zero => omega
      | succ k =>
        have hk' : k < (a.ends (p + 1) ++ b.ends (p + 1 + a.size)).length := by simpa [Tm.ends] using hk
        have hk2 := hall k hk'
        cases i with
        | zero =>
          simp only [Tm.ends, List.getElem_cons_succ, List.getElem_cons_zero]
          omega
        | succ i =>
          have hi' : i < (a.ends (p + 1) ++ b.ends (p + 1 + a.size)).length := by simpa [Tm.ends] using hi
          simp only [Tm.ends, List.getElem_cons_succ] at g2 ⊢
          by_cases hia : i < (a.ends (p + 1)).length
          · have e1 := a1 i hia
            rw [List.getElem_append_left hia] at g2 ⊢
            have hka : k < (a.ends (p + 1)).length := by omega
            rw [List.getElem_append_left hka]
            exact a2 i k hia hka (by omega) (by omega)
          · rw [List.getElem_append_right (by omega)] at g2 ⊢
            rw [List.getElem_append_right (by omega)]
            refine b2 _ _ (by simp at hi'; omega) (by simp at hk'; omega) (by omega) (by omega)
theorem ends_zero (t : Tm) (p : Nat) (h : 0 < (t.ends p).length) : (t.ends p)[0] = ((p + t.size : Nat) : Int) := by
  cases t <;> simp [Tm.ends, Tm.size] <;> omega
end Go.Proofs.YtopkbjfjncpjdaaDoor
