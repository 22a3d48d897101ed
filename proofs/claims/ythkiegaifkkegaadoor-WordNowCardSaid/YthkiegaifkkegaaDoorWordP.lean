/- WordP: what is needed of it. No condition. -/
import Derived.Test.YthkiegaifkkegaaDoorTruP
namespace Go.Proofs.YthkiegaifkkegaaDoor
def nxt (n back i : Nat) : Nat := if i + 1 < n then i + 1 else back
def nxtN (n back : Nat) : Nat → Nat → Nat
  | 0, i => i
  | j + 1, i => nxtN n back j (nxt n back i)
theorem nxt_lt {n back i : Nat} (h : back < n) : nxt n back i < n := by unfold nxt; split <;> omega
theorem nxtN_lt {n back : Nat} (h : back < n) : ∀ j i, i < n → nxtN n back j i < n
  | 0, _, hi => hi
  | j + 1, _, _ => nxtN_lt h j _ (nxt_lt h)
theorem nxtN_add (n back : Nat) : ∀ j k i, nxtN n back (j + k) i = nxtN n back k (nxtN n back j i)
  | 0, k, i => by rw [Nat.zero_add]; rfl
  | j + 1, k, i => by rw [show j + 1 + k = (j + k) + 1 by omega]; exact nxtN_add n back j k (nxt n back i)
structure Wd where
  ls : List (List Bool)
  back : Nat
def Wd.n (W : Wd) : Nat := W.ls.length
def UntilP (n back : Nat) (a b : Nat → Prop) (i : Nat) : Prop := ∃ j, b (nxtN n back j i) ∧ ∀ m, m < j → a (nxtN n back m i)
def RelP (n back : Nat) (a b : Nat → Prop) (i : Nat) : Prop := ∀ j, b (nxtN n back j i) ∨ ∃ m, m < j ∧ a (nxtN n back m i)
def Sat (W : Wd) : Tm → Nat → Prop
  | .n0 k v, i => if k = 13 then ((W.ls.getD i []).getD v.toNat false) = true else k = 11
  | .n1 k _ a, i =>
    if k = 10 then ¬ Sat W a i
    else if k = 14 then Sat W a (nxt W.n W.back i)
    else if k = 17 then UntilP W.n W.back (fun _ => True) (Sat W a) i
    else RelP W.n W.back (fun _ => False) (Sat W a) i
  | .n2 k _ a b, i =>
    if k = 8 then Sat W a i ∧ Sat W b i
    else if k = 9 then Sat W a i ∨ Sat W b i
    else if k = 15 then UntilP W.n W.back (Sat W a) (Sat W b) i
    else RelP W.n W.back (Sat W a) (Sat W b) i
theorem until_iff (n back : Nat) (a b : Nat → Prop) (i : Nat) : UntilP n back a b i ↔ b i ∨ (a i ∧ UntilP n back a b (nxt n back i)) := by
  constructor
  · rintro ⟨j, h1, h2⟩
    cases j with
    | zero => exact .inl h1
    | succ j => exact .inr ⟨h2 0 (by omega), j, h1, fun m hm => h2 (m + 1) (by omega)⟩
  · rintro (h | ⟨h, j, h1, h2⟩)
    · exact ⟨0, h, fun m hm => by omega⟩
    · refine ⟨j + 1, h1, fun m hm => ?_⟩
      cases m with
      | zero => exact h
      | succ m => exact h2 m (by omega)
theorem rel_iff (n back : Nat) (a b : Nat → Prop) (i : Nat) : RelP n back a b i ↔ b i ∧ (a i ∨ RelP n back a b (nxt n back i)) := by
  constructor
  · intro h
    refine ⟨by rcases h 0 with h | ⟨m, hm, _⟩; exact h; omega, ?_⟩
    by_cases ha : a i
    · exact .inl ha
    · refine .inr fun j => ?_
      rcases h (j + 1) with h | ⟨m, hm, h⟩
      · exact .inl h
      · cases m with
        | zero => exact absurd h ha
        | succ m => exact .inr ⟨m, by omega, h⟩
  · rintro ⟨h1, h2⟩ j
    cases j with
    | zero => exact .inl h1
    | succ j =>
      rcases h2 with h2 | h2
      · exact .inr ⟨0, by omega, h2⟩
      · rcases h2 j with h | ⟨m, hm, h⟩
        · exact .inl h
        · exact .inr ⟨m + 1, by omega, h⟩
theorem rel_not (n back : Nat) (a b : Nat → Prop) (i : Nat) : RelP n back a b i ↔ ¬ UntilP n back (fun x => ¬ a x) (fun x => ¬ b x) i := by
  constructor
  · rintro h ⟨j, h1, h2⟩
    rcases h j with h | ⟨m, hm, h⟩
    · exact h1 h
    · exact h2 m hm h
  · intro h j
    by_cases hb : b (nxtN n back j i)
    · exact .inl hb
    · right
      by_cases hx : ∃ m, m < j ∧ a (nxtN n back m i)
      · exact hx
      · exact absurd ⟨j, hb, fun m hm ha => hx ⟨m, hm, ha⟩⟩ h
theorem until_row {n back : Nat} {a b r : Nat → Prop} (hback : back < n) (h1 : ∀ i, i < n → r i → UntilP n back a b i) (h2 : ∀ i, i < n → (b i ∨ (a i ∧ r (nxt n back i))) → r i) : ∀ i, i < n → (r i ↔ UntilP n back a b i) := by
  intro i hi
  refine ⟨h1 i hi, ?_⟩
  rintro ⟨j, hb, ha⟩
  induction j generalizing i with
  | zero => exact h2 i hi (.inl hb)
  | succ j ih => exact h2 i hi (.inr ⟨ha 0 (by omega), ih _ (nxt_lt hback) hb fun m hm => ha (m + 1) (by omega)⟩)
theorem rel_row {n back : Nat} {a b r : Nat → Prop} (hback : back < n) (h1 : ∀ i, i < n → RelP n back a b i → r i) (h2 : ∀ i, i < n → r i → (b i ∧ (a i ∨ r (nxt n back i)))) : ∀ i, i < n → (r i ↔ RelP n back a b i) := by
  intro i hi
  refine ⟨fun h j => ?_, h1 i hi⟩
  induction j generalizing i with
  | zero => exact .inl (h2 i hi h).1
  | succ j ih =>
    obtain ⟨_, h3 | h3⟩ := h2 i hi h
    · exact .inr ⟨0, by omega, h3⟩
    · rcases ih _ (nxt_lt hback) h3 with h | ⟨m, hm, h⟩
      · exact .inl h
      · exact .inr ⟨m + 1, by omega, h⟩
end Go.Proofs.YthkiegaifkkegaaDoor
