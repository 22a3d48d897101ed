/- Term: what is needed of it. No condition. -/
import Derived.Test.YtopkbjfjncpjdaaDoorBase
namespace Go.Proofs.YtopkbjfjncpjdaaDoor
abbrev Op2 := Int × Int
def partsOf (k : Int) : Nat :=
  if k = 3 ∨ k = 4 ∨ k = 5 ∨ k = 6 ∨ k = 7 ∨ k = 8 ∨ k = 9 ∨ k = 15 ∨ k = 16 then 2
  else if k = 10 ∨ k = 14 ∨ k = 17 ∨ k = 18 then 1 else 0
def loopL (rec : Nat → List Int → (Except Int Nat) × List Int) : Nat → Nat → List Int → (Except Int Nat) × List Int
  | 0, e, es => (.ok e, es)
  | n + 1, e, es => match rec e es with
    | (.ok e', es') => loopL rec n e' es'
    | r => r
def closeL (p : Nat) : (Except Int Nat) × List Int → (Except Int Nat) × List Int
  | (.ok e, es) => (.ok e, es.set p (e : Int))
  | r => r
def skipL (l : List Op2) : Nat → Nat → List Int → (Except Int Nat) × List Int
  | 0, _, es => (.error 4, es)
  | f + 1, at', es =>
    if h : at' < l.length then
      if 1 ≤ l[at'].1 ∧ l[at'].1 ≤ 18 then
        closeL at' (loopL (skipL l f) (partsOf l[at'].1) (at' + 1) es)
      else (.error 13, es)
    else (.error 4, es)
def endsL (l : List Op2) : Except Int (List Int) :=
  if l.length > 60 then .error 1
  else match skipL l (l.length + 1) 0 (List.replicate l.length 0) with
    | (.ok n, es) => if n = l.length then .ok es else .error 3
    | (.error c, _) => .error c
inductive Tm where
  | n0 (k v : Int)
  | n1 (k v : Int) (a : Tm)
  | n2 (k v : Int) (a b : Tm)
def Tm.flat : Tm → List Op2
  | .n0 k v => [(k, v)]
  | .n1 k v a => (k, v) :: a.flat
  | .n2 k v a b => (k, v) :: (a.flat ++ b.flat)
def Tm.size : Tm → Nat
  | .n0 _ _ => 1
  | .n1 _ _ a => a.size + 1
  | .n2 _ _ a b => a.size + b.size + 1
theorem Tm.flat_len (t : Tm) : t.flat.length = t.size := by
  induction t with
  | n0 => rfl
  | n1 k v a ih => simp [flat, size, ih]
  | n2 k v a b ih1 ih2 => simp [flat, size, ih1, ih2]
theorem Tm.size_pos (t : Tm) : 0 < t.size := by cases t <;> simp [size]
def Tm.ok : Tm → Prop
  | .n0 k _ => 1 ≤ k ∧ k ≤ 18 ∧ partsOf k = 0
  | .n1 k _ a => 1 ≤ k ∧ k ≤ 18 ∧ partsOf k = 1 ∧ a.ok
  | .n2 k _ a b => 1 ≤ k ∧ k ≤ 18 ∧ partsOf k = 2 ∧ a.ok ∧ b.ok
def Tm.ends : Tm → Nat → List Int
  | .n0 _ _, p => [(p : Int) + 1]
  | .n1 _ _ a, p => ((p + 1 + a.size : Nat) : Int) :: a.ends (p + 1)
  | .n2 _ _ a b, p => ((p + 1 + a.size + b.size : Nat) : Int) :: (a.ends (p + 1) ++ b.ends (p + 1 + a.size))
theorem Tm.ends_len (t : Tm) : ∀ p, (t.ends p).length = t.size := by
  induction t with
  | n0 => intro p; rfl
  | n1 k v a ih => intro p; simp [ends, size, ih]
  | n2 k v a b ih1 ih2 => intro p; simp [ends, size, ih1, ih2]
theorem skip_term (t : Tm) (ht : t.ok) : ∀ (pre post : List Op2) (f : Nat) (ea em eb : List Int), (pre ++ t.flat ++ post).length < pre.length + f → ea.length = pre.length → em.length = t.size →
    skipL (pre ++ t.flat ++ post) f pre.length (ea ++ em ++ eb) = (.ok (pre.length + t.size), ea ++ t.ends pre.length ++ eb) := by
  induction t with
  | n0 k v =>
    intro pre post f ea em eb hf ha hm
    obtain ⟨h1, h2, h3⟩ := ht
    cases f with
    | zero => simp only [List.length_append] at hf; omega
    | succ f =>
      have hl : pre.length < (pre ++ Tm.flat (.n0 k v) ++ post).length := by simp [Tm.flat]
      have hg : (pre ++ Tm.flat (.n0 k v) ++ post)[pre.length] = (k, v) := by simp [Tm.flat]
      unfold skipL
      rw [dif_pos hl, hg]
      simp only [h1, h2, h3, and_self, if_true, loopL, closeL, Tm.size, Tm.ends]
      obtain ⟨x, rfl⟩ := List.length_eq_one_iff.1 hm
      simp [ha]
  | n1 k v a ih =>
    intro pre post f ea em eb hf ha hm
    obtain ⟨h1, h2, h3, h4⟩ := ht
    cases f with
    | zero => simp only [List.length_append] at hf; omega
    | succ f =>
      have hl : pre.length < (pre ++ Tm.flat (.n1 k v a) ++ post).length := by simp [Tm.flat]
      have hg : (pre ++ Tm.flat (.n1 k v a) ++ post)[pre.length] = (k, v) := by simp [Tm.flat]
      cases em with
      | nil => simp [Tm.size] at hm
      | cons x em =>
        have e1 : pre ++ Tm.flat (.n1 k v a) ++ post = (pre ++ [(k, v)]) ++ a.flat ++ post := by simp [Tm.flat]
        have e2 : ea ++ (x :: em) ++ eb = (ea ++ [x]) ++ em ++ eb := by simp
        have := ih h4 (pre ++ [(k, v)]) post f (ea ++ [x]) em eb (by rw [e1] at hf; simp at hf ⊢; omega) (by simp [ha]) (by simpa [Tm.size] using hm)
        unfold skipL
        rw [dif_pos hl, hg]
        simp only [h1, h2, h3, and_self, if_true, loopL]
        rw [e1, e2]
        rw [show pre.length + 1 = (pre ++ [(k, v)]).length by simp, this]
        simp only [closeL]
        simp [Tm.size, Tm.ends, ha]
        omega
  | n2 k v a b ih1 ih2 =>
    intro pre post f ea em eb hf ha hm
    obtain ⟨h1, h2, h3, h4, h5⟩ := ht
    cases f with
    | zero => simp only [List.length_append] at hf; omega
    | succ f =>
      have hl : pre.length < (pre ++ Tm.flat (.n2 k v a b) ++ post).length := by simp [Tm.flat]
      have hg : (pre ++ Tm.flat (.n2 k v a b) ++ post)[pre.length] = (k, v) := by simp [Tm.flat]
      cases em with
      | nil => simp [Tm.size] at hm
      | cons x em =>
        have hm' : em.length = a.size + b.size := by simpa [Tm.size] using hm
        have e1 : pre ++ Tm.flat (.n2 k v a b) ++ post = (pre ++ [(k, v)]) ++ a.flat ++ (b.flat ++ post) := by simp [Tm.flat]
        have e1' : (pre ++ [(k, v)]) ++ a.flat ++ (b.flat ++ post) = (pre ++ [(k, v)] ++ a.flat) ++ b.flat ++ post := by simp
        have e2 : ea ++ (x :: em) ++ eb = (ea ++ [x]) ++ em.take a.size ++ (em.drop a.size ++ eb) := by
          simp only [List.append_assoc, List.cons_append, List.nil_append]
          rw [← List.append_assoc (List.take a.size em), List.take_append_drop]
        have g1 := ih1 h4 (pre ++ [(k, v)]) (b.flat ++ post) f (ea ++ [x]) (em.take a.size) (em.drop a.size ++ eb) (by rw [e1] at hf; simp at hf ⊢; omega) (by simp [ha]) (by simp; omega)
        have g2 := ih2 h5 (pre ++ [(k, v)] ++ a.flat) post f (ea ++ [x] ++ a.ends (pre ++ [(k, v)]).length) (em.drop a.size) eb (by rw [e1, e1'] at hf; simp at hf ⊢; omega) (by simp [ha, Tm.ends_len, Tm.flat_len]) (by simp; omega)
        unfold skipL
        rw [dif_pos hl, hg]
        simp only [h1, h2, h3, and_self, if_true, loopL]
        rw [e1, e2, show pre.length + 1 = (pre ++ [(k, v)]).length by simp, g1]
        simp only []
        rw [e1']
        have e3 : ea ++ [x] ++ a.ends (pre ++ [(k, v)]).length ++ (em.drop a.size ++ eb) = (ea ++ [x] ++ a.ends (pre ++ [(k, v)]).length) ++ em.drop a.size ++ eb := by simp
        have e4 : (pre ++ [(k, v)] ++ a.flat).length = pre.length + 1 + a.size := by simp [Tm.flat_len]; omega
        have e5 : (pre ++ [(k, v)]).length = pre.length + 1 := by simp
        rw [e4, e5] at g2
        rw [e3, e5, g2]
        simp only [closeL]
        refine Prod.ext ?_ ?_
        · simp [Tm.size]; omega
        · simp [Tm.ends, ha]
theorem ends_term (t : Tm) (ht : t.ok) (hs : t.size ≤ 60) : endsL t.flat = .ok (t.ends 0) := by
  have h := skip_term t ht [] [] (t.flat.length + 1) [] (List.replicate t.flat.length 0) [] (by simp) rfl (by simp [Tm.flat_len])
  simp only [List.nil_append, List.append_nil, List.length_nil, Nat.zero_add] at h
  unfold endsL
  rw [if_neg (by rw [Tm.flat_len]; omega), h]
  simp [Tm.flat_len]
end Go.Proofs.YtopkbjfjncpjdaaDoor
