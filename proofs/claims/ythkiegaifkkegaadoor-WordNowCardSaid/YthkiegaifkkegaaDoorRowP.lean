/- RowP: what is needed of it. No condition. -/
import Derived.Test.YthkiegaifkkegaaDoorSettleP
import Derived.Test.YthkiegaifkkegaaDoorTruP
namespace Go.Proofs.YthkiegaifkkegaaDoor
def Tm.kd : Tm → Int
  | .n0 k _ => k
  | .n1 k _ _ => k
  | .n2 k _ _ _ => k
def Tm.vl : Tm → Int
  | .n0 _ v => v
  | .n1 _ v _ => v
  | .n2 _ v _ _ => v
def subs : Tm → List Tm
  | .n0 k v => [.n0 k v]
  | .n1 k v a => .n1 k v a :: subs a
  | .n2 k v a b => .n2 k v a b :: (subs a ++ subs b)
theorem subs_len (t : Tm) : (subs t).length = t.size := by
  induction t with
  | n0 => rfl
  | n1 k v a ih => simp [subs, Tm.size, ih]
  | n2 k v a b ih1 ih2 => simp [subs, Tm.size, ih1, ih2]
theorem subs_head (t : Tm) : (subs t)[0]? = some t := by cases t <;> rfl
structure SubAt (l : List Op2) (es : List Int) (S : List Tm) (i : Nat) (s : Tm) : Prop where
  op : l[i]? = some (s.kd, s.vl)
  sub : S[i]? = some s
  ok : s.ok
  one : ∀ k v a, s = .n1 k v a → S[i + 1]? = some a
  two : ∀ k v a b, s = .n2 k v a b → S[i + 1]? = some a ∧ es[i + 1]? = some (secAt es i : Int) ∧ i + 1 < secAt es i ∧ S[secAt es i]? = some b
theorem subs_law (t : Tm) (ht : t.ok) : ∀ (pre post : List Op2) (ea eb : List Int) (sa sb : List Tm), ea.length = pre.length → sa.length = pre.length →
    ∀ i, i < t.size → ∃ s, SubAt (pre ++ t.flat ++ post) (ea ++ t.ends pre.length ++ eb) (sa ++ subs t ++ sb) (pre.length + i) s := by
  induction t with
  | n0 k v =>
    intro pre post ea eb sa sb he hs i hi
    simp only [Tm.size] at hi
    obtain rfl : i = 0 := by omega
    refine ⟨.n0 k v, by simp [Tm.flat, Tm.kd, Tm.vl], by rw [← hs]; simp [subs], ht, fun _ _ _ h => (by cases h), fun _ _ _ _ h => (by cases h)⟩
  | n1 k v a ih =>
    intro pre post ea eb sa sb he hs i hi
    obtain ⟨h1, h2, h3, h4⟩ := ht
    have e1 : pre ++ Tm.flat (.n1 k v a) ++ post = (pre ++ [(k, v)]) ++ a.flat ++ post := by simp [Tm.flat]
    have e2 : ea ++ Tm.ends (.n1 k v a) pre.length ++ eb = (ea ++ [((pre.length + 1 + a.size : Nat) : Int)]) ++ a.ends (pre ++ [(k, v)]).length ++ eb := by simp [Tm.ends]
    have e3 : sa ++ subs (.n1 k v a) ++ sb = (sa ++ [Tm.n1 k v a]) ++ subs a ++ sb := by simp [subs]
    by_cases hi0 : i = 0
    · subst hi0
      refine ⟨.n1 k v a, by simp [Tm.flat, Tm.kd, Tm.vl], by rw [← hs]; simp [subs], ⟨h1, h2, h3, h4⟩, fun _ _ _ h => ?_, fun _ _ _ _ h => (by cases h)⟩
      cases h
      rw [e3, List.append_assoc, List.getElem?_append_right (by simp [hs]), List.getElem?_append_left (by rw [subs_len]; simp [hs]; exact a.size_pos)]
      simpa [hs] using subs_head a
    · have := ih h4 (pre ++ [(k, v)]) post (ea ++ [((pre.length + 1 + a.size : Nat) : Int)]) eb (sa ++ [Tm.n1 k v a]) sb (by simp [he]) (by simp [hs]) (i - 1) (by simp only [Tm.size] at hi; omega)
      rw [← e1, ← e2, ← e3, show (pre ++ [(k, v)]).length + (i - 1) = pre.length + i by simp; omega] at this
      exact this
  | n2 k v x y ih1 ih2 =>
    intro pre post ea eb sa sb he hs i hi
    obtain ⟨h1, h2, h3, h4, h5⟩ := ht
    have hfx := x.flat_len
    have hex := x.ends_len (pre.length + 1)
    have hsx := x.size_pos
    have hsy := y.size_pos
    have hlx := subs_len x
    have hly := subs_len y
    obtain ⟨E0, hE0⟩ : ∃ e, e = ((pre.length + 1 + x.size + y.size : Nat) : Int) := ⟨_, rfl⟩
    have e1 : pre ++ Tm.flat (.n2 k v x y) ++ post = (pre ++ [(k, v)]) ++ x.flat ++ (y.flat ++ post) := by simp [Tm.flat]
    have e1' : pre ++ Tm.flat (.n2 k v x y) ++ post = (pre ++ [(k, v)] ++ x.flat) ++ y.flat ++ post := by simp [Tm.flat]
    have e2 : ea ++ Tm.ends (.n2 k v x y) pre.length ++ eb = (ea ++ [E0]) ++ x.ends (pre ++ [(k, v)]).length ++ (y.ends (pre.length + 1 + x.size) ++ eb) := by simp [Tm.ends, hE0]
    have e2' : ea ++ Tm.ends (.n2 k v x y) pre.length ++ eb = (ea ++ [E0] ++ x.ends (pre.length + 1)) ++ y.ends (pre ++ [(k, v)] ++ x.flat).length ++ eb := by
      rw [show (pre ++ [(k, v)] ++ x.flat).length = pre.length + 1 + x.size by simp [hfx]; omega]
      simp [Tm.ends, hE0]
    have e3 : sa ++ subs (.n2 k v x y) ++ sb = (sa ++ [Tm.n2 k v x y]) ++ subs x ++ (subs y ++ sb) := by simp [subs]
    have e3' : sa ++ subs (.n2 k v x y) ++ sb = (sa ++ [Tm.n2 k v x y] ++ subs x) ++ subs y ++ sb := by simp [subs]
    by_cases hi0 : i = 0
    · subst hi0
      have hes : ((ea ++ [E0]) ++ x.ends (pre ++ [(k, v)]).length ++ (y.ends (pre.length + 1 + x.size) ++ eb))[pre.length + 0 + 1]? = some (((pre.length + 1 + x.size : Nat)) : Int) := by
        have hz := ends_zero x (pre.length + 1) (by rw [hex]; exact hsx)
        have hl2 : (pre ++ [(k, v)]).length = pre.length + 1 := by simp
        rw [hl2, List.append_assoc, List.getElem?_append_right (by simp [he]), List.getElem?_append_left (by rw [hex]; simp [he]; exact hsx)]
        rw [show pre.length + 0 + 1 - (ea ++ [E0]).length = 0 by simp [he], List.getElem?_eq_getElem (by rw [hex]; exact hsx), hz]
      have hsec : secAt ((ea ++ [E0]) ++ x.ends (pre ++ [(k, v)]).length ++ (y.ends (pre.length + 1 + x.size) ++ eb)) (pre.length + 0) = pre.length + 1 + x.size := by
        unfold secAt
        rw [List.getD, hes]
        show ((pre.length + 1 + x.size : Nat) : Int).toNat = _
        omega
      refine ⟨.n2 k v x y, by simp [Tm.flat, Tm.kd, Tm.vl], by rw [← hs]; simp [subs], ⟨h1, h2, h3, h4, h5⟩, fun _ _ _ h => (by cases h), fun _ _ _ _ h => ?_⟩
      cases h
      rw [e2, hsec]
      refine ⟨?_, hes, by omega, ?_⟩
      · rw [e3, List.append_assoc, List.getElem?_append_right (by simp [hs]), List.getElem?_append_left (by rw [hlx]; simp [hs]; exact hsx)]
        simpa [hs] using subs_head x
      · rw [e3', List.append_assoc, List.getElem?_append_right (by simp [hs, hlx]; omega), List.getElem?_append_left (by rw [hly]; simp [hs, hlx]; omega)]
        have e0 : pre.length + 1 + x.size - (sa ++ [Tm.n2 k v x y] ++ subs x).length = 0 := by simp [hs, hlx]; omega
        rw [e0]
        exact subs_head y
    · by_cases hix : i - 1 < x.size
      · have := ih1 h4 (pre ++ [(k, v)]) (y.flat ++ post) (ea ++ [E0]) (y.ends (pre.length + 1 + x.size) ++ eb) (sa ++ [Tm.n2 k v x y]) (subs y ++ sb) (by simp [he]) (by simp [hs]) (i - 1) hix
        rw [← e1, ← e2, ← e3, show (pre ++ [(k, v)]).length + (i - 1) = pre.length + i by simp; omega] at this
        exact this
      · have hpl : (pre ++ [(k, v)] ++ x.flat).length + (i - 1 - x.size) = pre.length + i := by simp [hfx]; omega
        have := ih2 h5 (pre ++ [(k, v)] ++ x.flat) post (ea ++ [E0] ++ x.ends (pre.length + 1)) eb (sa ++ [Tm.n2 k v x y] ++ subs x) sb (by simp [he, hex, hfx]) (by simp [hs, hlx, hfx]) (i - 1 - x.size) (by simp only [Tm.size] at hi; omega)
        rw [← e1', ← e2', ← e3', hpl] at this
        exact this
theorem subs_at (t : Tm) (ht : t.ok) (i : Nat) (hi : i < t.size) : ∃ s, SubAt t.flat (t.ends 0) (subs t) i s := by
  have := subs_law t ht [] [] [] [] [] [] rfl rfl i hi
  simpa using this
noncomputable def satB (W : Wd) (t : Tm) (i : Nat) : Bool := @decide (Sat W t i) (Classical.propDecidable _)
theorem satB_iff {W : Wd} {t : Tm} {i : Nat} : satB W t i = true ↔ Sat W t i := by unfold satB; exact @decide_eq_true_iff _ (Classical.propDecidable _)
theorem satB_eq {W : Wd} {t : Tm} {i : Nat} {b : Bool} (h : Sat W t i ↔ b = true) : satB W t i = b := by
  rw [Bool.eq_iff_iff, satB_iff]; exact h
theorem until_congr {n back : Nat} {a a' b b' : Nat → Prop} (h1 : ∀ j, a j ↔ a' j) (h2 : ∀ j, b j ↔ b' j) (i : Nat) : UntilP n back a b i ↔ UntilP n back a' b' i := by
  obtain rfl : a = a' := funext fun j => propext (h1 j)
  obtain rfl : b = b' := funext fun j => propext (h2 j)
  exact Iff.rfl
theorem rel_congr {n back : Nat} {a a' b b' : Nat → Prop} (h1 : ∀ j, a j ↔ a' j) (h2 : ∀ j, b j ↔ b' j) (i : Nat) : RelP n back a b i ↔ RelP n back a' b' i := by
  obtain rfl : a = a' := funext fun j => propext (h1 j)
  obtain rfl : b = b' := funext fun j => propext (h2 j)
  exact Iff.rfl
section
variable (W : Wd) (v : Int) (a b : Tm) (i : Nat)
theorem satB_prop : satB W (.n0 13 v) i = (W.ls.getD i []).getD v.toNat false := satB_eq (by simp [Sat])
theorem satB_yes : satB W (.n0 11 v) i = true := satB_eq (by simp [Sat])
theorem satB_no : satB W (.n0 12 v) i = false := satB_eq (by simp [Sat])
theorem satB_not : satB W (.n1 10 v a) i = !satB W a i := satB_eq (by simp [Sat, ← satB_iff])
theorem satB_next : satB W (.n1 14 v a) i = satB W a (nxt W.n W.back i) := satB_eq (by simp [Sat, ← satB_iff])
theorem satB_and : satB W (.n2 8 v a b) i = (satB W a i && satB W b i) := satB_eq (by simp [Sat, ← satB_iff])
theorem satB_or : satB W (.n2 9 v a b) i = (satB W a i || satB W b i) := satB_eq (by simp [Sat, ← satB_iff])
theorem satB_fin : satB W (.n1 17 v a) i = true ↔ UntilP W.n W.back (fun _ => true = true) (fun j => satB W a j = true) i := by
  rw [satB_iff]
  simp only [Sat, show ¬ (17 : Int) = 10 by decide, show ¬ (17 : Int) = 14 by decide, if_false, if_true]
  exact until_congr (fun _ => by simp) (fun _ => satB_iff.symm) i
theorem satB_glo : satB W (.n1 18 v a) i = true ↔ RelP W.n W.back (fun _ => false = true) (fun j => satB W a j = true) i := by
  rw [satB_iff]
  simp only [Sat, show ¬ (18 : Int) = 10 by decide, show ¬ (18 : Int) = 14 by decide, show ¬ (18 : Int) = 17 by decide, if_false]
  exact rel_congr (fun _ => by simp) (fun _ => satB_iff.symm) i
theorem satB_unt : satB W (.n2 15 v a b) i = true ↔ UntilP W.n W.back (fun j => satB W a j = true) (fun j => satB W b j = true) i := by
  rw [satB_iff]
  simp only [Sat, show ¬ (15 : Int) = 8 by decide, show ¬ (15 : Int) = 9 by decide, if_false, if_true]
  exact until_congr (fun _ => satB_iff.symm) (fun _ => satB_iff.symm) i
theorem satB_rel : satB W (.n2 16 v a b) i = true ↔ RelP W.n W.back (fun j => satB W a j = true) (fun j => satB W b j = true) i := by
  rw [satB_iff]
  simp only [Sat, show ¬ (16 : Int) = 8 by decide, show ¬ (16 : Int) = 9 by decide, show ¬ (16 : Int) = 15 by decide, if_false]
  exact rel_congr (fun _ => satB_iff.symm) (fun _ => satB_iff.symm) i
end
theorem tm_cases {props : Int} {s : Tm} (hok : s.ok) (hf : FitOp props (s.kd, s.vl)) :
    (∃ v, s = .n0 13 v ∧ 0 ≤ v ∧ v < props) ∨ (s = .n0 11 0) ∨ (s = .n0 12 0) ∨ (∃ a, s = .n1 10 0 a) ∨ (∃ a, s = .n1 14 0 a) ∨ (∃ a, s = .n1 17 0 a) ∨ (∃ a, s = .n1 18 0 a) ∨
    (∃ a b, s = .n2 8 0 a b) ∨ (∃ a b, s = .n2 9 0 a b) ∨ (∃ a b, s = .n2 15 0 a b) ∨ (∃ a b, s = .n2 16 0 a b) := by
  obtain ⟨h1, h2, h3, h4⟩ := hf
  cases s with
  | n0 k v =>
    obtain ⟨_, _, hp⟩ := hok
    simp only [Tm.kd, Tm.vl] at h1 h2 h3 h4
    have : k = 11 ∨ k = 12 ∨ k = 13 := by
      unfold partsOf at hp
      split at hp
      · cases hp
      · split at hp
        · cases hp
        · omega
    rcases this with rfl | rfl | rfl
    · obtain rfl := h4 (by omega); exact .inr (.inl rfl)
    · obtain rfl := h4 (by omega); exact .inr (.inr (.inl rfl))
    · exact .inl ⟨v, rfl, h3 rfl⟩
  | n1 k v a =>
    obtain ⟨_, _, hp, _⟩ := hok
    simp only [Tm.kd, Tm.vl] at h1 h2 h3 h4
    have : k = 10 ∨ k = 14 ∨ k = 17 ∨ k = 18 := by
      unfold partsOf at hp
      split at hp
      · cases hp
      · split at hp
        · omega
        · cases hp
    obtain rfl := h4 (by omega)
    rcases this with rfl | rfl | rfl | rfl
    · exact .inr (.inr (.inr (.inl ⟨a, rfl⟩)))
    · exact .inr (.inr (.inr (.inr (.inl ⟨a, rfl⟩))))
    · exact .inr (.inr (.inr (.inr (.inr (.inl ⟨a, rfl⟩)))))
    · exact .inr (.inr (.inr (.inr (.inr (.inr (.inl ⟨a, rfl⟩))))))
  | n2 k v a b =>
    obtain ⟨_, _, hp, _⟩ := hok
    simp only [Tm.kd, Tm.vl] at h1 h2 h3 h4
    have : k = 8 ∨ k = 9 ∨ k = 15 ∨ k = 16 := by
      unfold partsOf at hp
      split at hp
      · omega
      · split at hp
        · cases hp
        · cases hp
    obtain rfl := h4 (by omega)
    rcases this with rfl | rfl | rfl | rfl
    · exact .inr (.inr (.inr (.inr (.inr (.inr (.inr (.inl ⟨a, b, rfl⟩)))))))
    · exact .inr (.inr (.inr (.inr (.inr (.inr (.inr (.inr (.inl ⟨a, b, rfl⟩))))))))
    · exact .inr (.inr (.inr (.inr (.inr (.inr (.inr (.inr (.inr (.inl ⟨a, b, rfl⟩)))))))))
    · exact .inr (.inr (.inr (.inr (.inr (.inr (.inr (.inr (.inr (.inr ⟨a, b, rfl⟩)))))))))
end Go.Proofs.YthkiegaifkkegaaDoor
