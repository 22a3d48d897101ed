/- Plain: what ends inside of what; a term that is cut; a term with an op behind it. -/
import Derived.Test.YtkkbefhnklpfaaaDoorTerm
namespace Go.Proofs.YtkkbefhnklpfaaaDoor

/-- Place by place: it ends behind its place, inside of the whole; and what begins inside of it ends inside of it. -/
theorem ends_nest (t : Tm) : ∀ p, (∀ i (h : i < (t.ends p).length), (p : Int) + i < (t.ends p)[i] ∧ (t.ends p)[i] ≤ p + t.size) ∧
    (∀ i k (hi : i < (t.ends p).length) (hk : k < (t.ends p).length), i < k → (p : Int) + k < (t.ends p)[i] → (t.ends p)[k] ≤ (t.ends p)[i]) := by
  induction t with
  | n0 k v =>
    intro p
    refine ⟨fun i h => ?_, fun i k hi hk h1 h2 => ?_⟩
    · simp [Tm.ends] at h; subst h; simp [Tm.ends, Tm.size]; omega
    · simp [Tm.ends] at hi hk; omega
  | n1 k v a ih =>
    intro p
    obtain ⟨h1, h2⟩ := ih (p + 1)
    have hl := a.ends_len (p + 1)
    refine ⟨fun i h => ?_, fun i k hi hk g1 g2 => ?_⟩
    · cases i with
      | zero => simp [Tm.ends, Tm.size]; have := a.size_pos; omega
      | succ i =>
        have := h1 i (by simpa [Tm.ends] using h)
        simp only [Tm.ends, Tm.size, List.getElem_cons_succ]
        omega
    · cases k with
      | zero => omega
      | succ k =>
        have hk' : k < (a.ends (p + 1)).length := by simpa [Tm.ends] using hk
        have hk2 := h1 k hk'
        cases i with
        | zero =>
          simp only [Tm.ends, List.getElem_cons_succ, List.getElem_cons_zero]
          omega
        | succ i =>
          simp only [Tm.ends, List.getElem_cons_succ] at g2 ⊢
          exact h2 i k (by simpa [Tm.ends] using hi) hk' (by omega) (by omega)
  | n2 k v a b iha ihb =>
    intro p
    obtain ⟨a1, a2⟩ := iha (p + 1)
    obtain ⟨b1, b2⟩ := ihb (p + 1 + a.size)
    have hla := a.ends_len (p + 1)
    have hlb := b.ends_len (p + 1 + a.size)
    have hall : ∀ i (h : i < (a.ends (p + 1) ++ b.ends (p + 1 + a.size)).length), ((p + 1 : Nat) : Int) + i < (a.ends (p + 1) ++ b.ends (p + 1 + a.size))[i] ∧ (a.ends (p + 1) ++ b.ends (p + 1 + a.size))[i] ≤ ((p + 1 + a.size + b.size : Nat) : Int) := by
      intro i h
      by_cases hi : i < (a.ends (p + 1)).length
      · rw [List.getElem_append_left hi]
        have := a1 i hi
        omega
      · rw [List.getElem_append_right (by omega)]
        have := b1 (i - (a.ends (p + 1)).length) (by simp at h; omega)
        omega
    refine ⟨fun i h => ?_, fun i k hi hk g1 g2 => ?_⟩
    · cases i with
      | zero => simp [Tm.ends, Tm.size]; omega
      | succ i =>
        have := hall i (by simpa [Tm.ends] using h)
        simp only [Tm.ends, Tm.size, List.getElem_cons_succ]
        omega
    · cases k with
      | zero => omega
      | succ k =>
        have hk' : k < (a.ends (p + 1) ++ b.ends (p + 1 + a.size)).length := by simpa [Tm.ends] using hk
        have hk2 := hall k hk'
        cases i with
        | zero =>
          simp only [Tm.ends, List.getElem_cons_succ, List.getElem_cons_zero]
          omega
        | succ i =>
          have hi' : i < (a.ends (p + 1) ++ b.ends (p + 1 + a.size)).length := by simpa [Tm.ends] using hi
          simp only [Tm.ends, List.getElem_cons_succ] at g2 ⊢
          by_cases hia : i < (a.ends (p + 1)).length
          · have e1 := a1 i hia
            rw [List.getElem_append_left hia] at g2 ⊢
            have hka : k < (a.ends (p + 1)).length := by omega
            rw [List.getElem_append_left hka]
            exact a2 i k hia hka (by omega) (by omega)
          · rw [List.getElem_append_right (by omega)] at g2 ⊢
            rw [List.getElem_append_right (by omega)]
            refine b2 _ _ (by simp at hi'; omega) (by simp at hk'; omega) (by omega) (by omega)

theorem ends_zero (t : Tm) (p : Nat) (h : 0 < (t.ends p).length) : (t.ends p)[0] = ((p + t.size : Nat) : Int) := by
  cases t <;> simp [Tm.ends, Tm.size] <;> omega

/-- Whatever the table held: a term is read to its end. -/
theorem skip_ok (t : Tm) (ht : t.ok) : ∀ (pre post : List Op2) (f : Nat) (es : List Int), (pre ++ t.flat ++ post).length < pre.length + f → ∃ es1, skipL (pre ++ t.flat ++ post) f pre.length es = (.ok (pre.length + t.size), es1) := by
  induction t with
  | n0 k v =>
    intro pre post f es hf
    obtain ⟨h1, h2, h3⟩ := ht
    cases f with
    | zero => simp only [List.length_append] at hf; omega
    | succ f =>
      have hl : pre.length < (pre ++ Tm.flat (.n0 k v) ++ post).length := by simp [Tm.flat]
      have hg : (pre ++ Tm.flat (.n0 k v) ++ post)[pre.length] = (k, v) := by simp [Tm.flat]
      unfold skipL
      rw [dif_pos hl, hg]
      simp only [h1, h2, h3, and_self, if_true, loopL, closeL, Tm.size]
      exact ⟨_, rfl⟩
  | n1 k v a ih =>
    intro pre post f es hf
    obtain ⟨h1, h2, h3, h4⟩ := ht
    cases f with
    | zero => simp only [List.length_append] at hf; omega
    | succ f =>
      have hl : pre.length < (pre ++ Tm.flat (.n1 k v a) ++ post).length := by simp [Tm.flat]
      have hg : (pre ++ Tm.flat (.n1 k v a) ++ post)[pre.length] = (k, v) := by simp [Tm.flat]
      have e1 : pre ++ Tm.flat (.n1 k v a) ++ post = (pre ++ [(k, v)]) ++ a.flat ++ post := by simp [Tm.flat]
      obtain ⟨es1, g1⟩ := ih h4 (pre ++ [(k, v)]) post f es (by rw [e1] at hf; simp at hf ⊢; omega)
      unfold skipL
      rw [dif_pos hl, hg]
      simp only [h1, h2, h3, and_self, if_true, loopL]
      rw [e1, show pre.length + 1 = (pre ++ [(k, v)]).length by simp, g1]
      simp only [closeL]
      exact ⟨_, by rw [show (pre ++ [(k, v)]).length + a.size = pre.length + (Tm.n1 k v a).size by simp [Tm.size]; omega]⟩
  | n2 k v a b iha ihb =>
    intro pre post f es hf
    obtain ⟨h1, h2, h3, h4, h5⟩ := ht
    cases f with
    | zero => simp only [List.length_append] at hf; omega
    | succ f =>
      have hl : pre.length < (pre ++ Tm.flat (.n2 k v a b) ++ post).length := by simp [Tm.flat]
      have hg : (pre ++ Tm.flat (.n2 k v a b) ++ post)[pre.length] = (k, v) := by simp [Tm.flat]
      have e1 : pre ++ Tm.flat (.n2 k v a b) ++ post = (pre ++ [(k, v)]) ++ a.flat ++ (b.flat ++ post) := by simp [Tm.flat]
      have e2 : (pre ++ [(k, v)]) ++ a.flat ++ (b.flat ++ post) = (pre ++ [(k, v)] ++ a.flat) ++ b.flat ++ post := by simp
      obtain ⟨es1, g1⟩ := iha h4 (pre ++ [(k, v)]) (b.flat ++ post) f es (by rw [e1] at hf; simp at hf ⊢; omega)
      obtain ⟨es2, g2⟩ := ihb h5 (pre ++ [(k, v)] ++ a.flat) post f es1 (by rw [e1, e2] at hf; simp at hf ⊢; omega)
      unfold skipL
      rw [dif_pos hl, hg]
      simp only [h1, h2, h3, and_self, if_true, loopL]
      rw [e1, show pre.length + 1 = (pre ++ [(k, v)]).length by simp, g1]
      simp only []
      rw [e2, show (pre ++ [(k, v)]).length + a.size = (pre ++ [(k, v)] ++ a.flat).length by simp [Tm.flat_len]; omega, g2]
      simp only [closeL]
      exact ⟨_, by rw [show (pre ++ [(k, v)] ++ a.flat).length + b.size = pre.length + (Tm.n2 k v a b).size by simp [Tm.size, Tm.flat_len]; omega]⟩

/-- A term that is cut is too short. -/
theorem skip_cut (t : Tm) (ht : t.ok) : ∀ (pre : List Op2) (c f : Nat) (es : List Int), c < t.size → (pre ++ t.flat.take c).length < pre.length + f → (skipL (pre ++ t.flat.take c) f pre.length es).1 = .error 4 := by
  induction t with
  | n0 k v =>
    intro pre c f es hc hf
    obtain rfl : c = 0 := by simp [Tm.size] at hc; omega
    cases f with
    | zero => rfl
    | succ f => unfold skipL; simp
  | n1 k v a ih =>
    intro pre c f es hc hf
    obtain ⟨h1, h2, h3, h4⟩ := ht
    cases f with
    | zero => rfl
    | succ f =>
      cases c with
      | zero => unfold skipL; simp
      | succ c =>
        have e1 : pre ++ (Tm.flat (.n1 k v a)).take (c + 1) = (pre ++ [(k, v)]) ++ a.flat.take c := by simp [Tm.flat]
        have hl : pre.length < (pre ++ (Tm.flat (.n1 k v a)).take (c + 1)).length := by simp [Tm.flat]
        have hg : (pre ++ (Tm.flat (.n1 k v a)).take (c + 1))[pre.length] = (k, v) := by simp [Tm.flat]
        have := ih h4 (pre ++ [(k, v)]) c f es (by simp [Tm.size] at hc; omega) (by rw [e1] at hf; simp at hf ⊢; omega)
        unfold skipL
        rw [dif_pos hl, hg]
        simp only [h1, h2, h3, and_self, if_true, loopL]
        rw [e1, show pre.length + 1 = (pre ++ [(k, v)]).length by simp]
        rcases hr : skipL (pre ++ [(k, v)] ++ a.flat.take c) f (pre ++ [(k, v)]).length es with ⟨r, es'⟩
        rw [hr] at this
        simp only at this
        subst this
        rfl
  | n2 k v a b iha ihb =>
    intro pre c f es hc hf
    obtain ⟨h1, h2, h3, h4, h5⟩ := ht
    cases f with
    | zero => rfl
    | succ f =>
      cases c with
      | zero => unfold skipL; simp
      | succ c =>
        have hl : pre.length < (pre ++ (Tm.flat (.n2 k v a b)).take (c + 1)).length := by simp [Tm.flat]
        have hg : (pre ++ (Tm.flat (.n2 k v a b)).take (c + 1))[pre.length] = (k, v) := by simp [Tm.flat]
        unfold skipL
        rw [dif_pos hl, hg]
        simp only [h1, h2, h3, and_self, if_true, loopL]
        rw [show pre.length + 1 = (pre ++ [(k, v)]).length by simp]
        by_cases hca : c < a.size
        · have e1 : pre ++ (Tm.flat (.n2 k v a b)).take (c + 1) = (pre ++ [(k, v)]) ++ a.flat.take c := by
            simp only [Tm.flat, List.take_succ_cons, List.append_assoc, List.cons_append, List.nil_append]
            rw [List.take_append_of_le_length (by rw [Tm.flat_len]; omega)]
          have := iha h4 (pre ++ [(k, v)]) c f es hca (by rw [e1] at hf; simp at hf ⊢; omega)
          rw [e1]
          rcases hr : skipL (pre ++ [(k, v)] ++ a.flat.take c) f (pre ++ [(k, v)]).length es with ⟨r, es'⟩
          rw [hr] at this
          simp only at this
          subst this
          rfl
        · have e1 : pre ++ (Tm.flat (.n2 k v a b)).take (c + 1) = (pre ++ [(k, v)] ++ a.flat) ++ b.flat.take (c - a.size) := by
            simp only [Tm.flat, List.take_succ_cons, List.append_assoc, List.cons_append, List.nil_append]
            rw [List.take_append, List.take_of_length_le (by rw [Tm.flat_len]; omega), Tm.flat_len]
          have g2 := fun es' => ihb h5 (pre ++ [(k, v)] ++ a.flat) (c - a.size) f es' (by simp [Tm.size] at hc; omega) (by rw [e1] at hf; simp at hf ⊢; omega)
          rw [e1]
          have hE : ∃ es1, skipL (pre ++ [(k, v)] ++ a.flat ++ b.flat.take (c - a.size)) f (pre ++ [(k, v)]).length es = (.ok ((pre ++ [(k, v)]).length + a.size), es1) := by
            exact skip_ok a h4 (pre ++ [(k, v)]) (b.flat.take (c - a.size)) f es (by rw [e1] at hf; simp at hf ⊢; omega)
          obtain ⟨es1, hE⟩ := hE
          rw [hE]
          simp only []
          have g3 := g2 es1
          rw [show (pre ++ [(k, v)] ++ a.flat).length = (pre ++ [(k, v)]).length + a.size by simp [Tm.flat_len]; omega] at g3
          rcases hr : skipL (pre ++ [(k, v)] ++ a.flat ++ b.flat.take (c - a.size)) f ((pre ++ [(k, v)]).length + a.size) es1 with ⟨r, es'⟩
          rw [hr] at g3
          simp only at g3
          subst g3
          rfl

theorem ends_cut (t : Tm) (ht : t.ok) (hs : t.size ≤ 60) (c : Nat) (hc : c < t.size) : endsL (t.flat.take c) = .error 4 := by
  have hl : (t.flat.take c).length = c := by rw [List.length_take, Tm.flat_len]; omega
  have h := skip_cut t ht [] c ((t.flat.take c).length + 1) (List.replicate (t.flat.take c).length 0) hc (by simp)
  simp only [List.nil_append, List.length_nil] at h
  unfold endsL
  rw [if_neg (by omega)]
  rcases hr : skipL (t.flat.take c) ((t.flat.take c).length + 1) 0 (List.replicate (t.flat.take c).length 0) with ⟨r, es⟩
  rw [hr] at h
  simp only at h
  subst h
  rfl

theorem ends_more (t : Tm) (ht : t.ok) (hs : t.size < 60) (o : Op2) : endsL (t.flat ++ [o]) = .error 3 := by
  have hl : (t.flat ++ [o]).length = t.size + 1 := by simp [Tm.flat_len]
  obtain ⟨es1, h⟩ := skip_ok t ht [] [o] ((t.flat ++ [o]).length + 1) (List.replicate (t.flat ++ [o]).length 0) (by simp)
  simp only [List.nil_append, List.length_nil, Nat.zero_add] at h
  unfold endsL
  rw [if_neg (by omega), h]
  simp only []
  rw [if_neg (by omega)]

end Go.Proofs.YtkkbefhnklpfaaaDoor
