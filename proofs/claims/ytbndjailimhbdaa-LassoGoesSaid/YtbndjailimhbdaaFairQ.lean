/- Plain words on fair parts: what it means that a part is fair. No condition. -/
import Derived.Test.YtbndjailimhbdaaFairP
import Derived.Test.YtbndjailimhbdaaTarjanM
namespace Go.Proofs.Ytbndjailimhbdaa
open Go.RowKit

/-- Each reaches the other. -/
def Same (next : List (List Int)) (a b : Nat) : Prop := Reach next a b ∧ Reach next b a
theorem Same.refl (next : List (List Int)) (a : Nat) : Same next a a := ⟨Reach.refl _, Reach.refl _⟩
theorem Same.symm {next : List (List Int)} {a b : Nat} (h : Same next a b) : Same next b a := ⟨h.2, h.1⟩
theorem Same.trans {next : List (List Int)} {a b c : Nat} (h : Same next a b) (k : Same next b c) : Same next a c := ⟨h.1.trans k.1, k.2.trans h.2⟩

/-- What goes round in a part, meets all sets, is named by its least spot. -/
structure FairAt (next : List (List Int)) (bits : Nat → Nat) (M n m : Nat) : Prop where
  least : ∀ b, Same next m b → m ≤ b
  loop : ∃ i k, i < n ∧ Same next m i ∧ Edge next i k ∧ Same next m k
  sets : ∀ t, t < M → ∃ i, i < n ∧ Same next m i ∧ (bits i).testBit t = true

theorem orUp_bit (pn bits : Nat → Nat) (m t : Nat) : ∀ i, (orUp pn bits i m).testBit t = true ↔ ∃ j, j < i ∧ pn j = m ∧ (bits j).testBit t = true
  | 0 => by simp [orUp]
  | i + 1 => by
    have ih := orUp_bit pn bits m t i
    unfold orUp
    split
    · rename_i e
      rw [Nat.testBit_or, Bool.or_eq_true, ih]
      constructor
      · rintro (⟨j, h1, h2, h3⟩ | h)
        · exact ⟨j, by omega, h2, h3⟩
        · exact ⟨i, by omega, e, h⟩
      · rintro ⟨j, h1, h2, h3⟩
        by_cases hj : j = i
        · subst hj; exact .inr h3
        · exact .inl ⟨j, by omega, h2, h3⟩
    · rename_i e
      rw [ih]
      constructor
      · rintro ⟨j, h1, h2, h3⟩
        exact ⟨j, by omega, h2, h3⟩
      · rintro ⟨j, h1, h2, h3⟩
        by_cases hj : j = i
        · subst hj; exact absurd h2 e
        · exact ⟨j, by omega, h2, h3⟩

theorem full_iffG {o M : Nat} (h : o < 2 ^ M) : o = 2 ^ M - 1 ↔ ∀ t, t < M → o.testBit t = true := by
  constructor
  · rintro rfl t ht
    rw [Nat.testBit_two_pow_sub_one]
    simpa using ht
  · intro hb
    apply Nat.eq_of_testBit_eq
    intro t
    rw [Nat.testBit_two_pow_sub_one]
    by_cases ht : t < M
    · rw [hb t ht]; simp [ht]
    · rw [Nat.testBit_lt_two_pow (Nat.lt_of_lt_of_le h (Nat.pow_le_pow_right (by omega) (by omega)))]
      simp [ht]

theorem lpUp_iff (pn : Nat → Nat) (next : List (List Int)) (m : Nat) : ∀ i, lpUp pn next i m = true ↔ ∃ j, j < i ∧ pn j = m ∧ ∃ z ∈ nbs next j, pn z.toNat = m
  | 0 => by simp [lpUp]
  | i + 1 => by
    have ih := lpUp_iff pn next m i
    unfold lpUp
    rw [Bool.or_eq_true, ih, Bool.and_eq_true, beq_iff_eq, List.any_eq_true]
    simp only [beq_iff_eq]
    constructor
    · rintro (⟨j, h1, h2, h3⟩ | ⟨h1, h2⟩)
      · exact ⟨j, by omega, h2, h3⟩
      · exact ⟨i, by omega, h1, h2⟩
    · rintro ⟨j, h1, h2, h3⟩
      by_cases hj : j = i
      · subst hj; exact .inr ⟨h2, h3⟩
      · exact .inl ⟨j, by omega, h2, h3⟩

theorem edge_in {n : Nat} {next : List (List Int)} (hI : Inside n next) (hn : next.length = n) {i k : Nat} (h : Edge next i k) : i < n ∧ k < n := by
  obtain ⟨l, h1, h2⟩ := h
  obtain ⟨hl, e⟩ := List.getElem?_eq_some_iff.1 h1
  have := hI l (by rw [← e]; simp) _ h2
  omega

theorem reach_in {n : Nat} {next : List (List Int)} (hI : Inside n next) (hn : next.length = n) {a b : Nat} (h : Reach next a b) (ha : a < n) : b < n := by
  cases h with
  | refl => exact ha
  | step _ h2 => exact (edge_in hI hn h2).2

theorem fairB_iff {n : Nat} {next : List (List Int)} {part : Nat → Int} {pn bits : Nat → Nat} {M m : Nat} (hp : ∀ a, a < n → PartOk next part a) (hpn : ∀ a, a < n → part a = (pn a : Int)) (hI : Inside n next) (hn : next.length = n) (hb : ∀ i, bits i < 2 ^ M) (hm : m < n) :
    fairB pn next bits M n m = true ↔ FairAt next bits M n m := by
  have hsame : ∀ a b, a < n → b < n → (pn a = pn b ↔ Same next a b) := fun a b ha hb => by
    rw [Same, ← part_iff (hp a ha) (hp b hb), hpn a ha, hpn b hb]
    omega
  have hleast : pn m = m ↔ ∀ b, Same next m b → m ≤ b := by
    obtain ⟨m', h1, h2, h3, h4⟩ := hp m hm
    rw [hpn m hm] at h1
    constructor
    · intro e b hb'
      have := h4 b hb'.1 hb'.2
      omega
    · intro h
      have a1 := h m' ⟨h2, h3⟩
      have a2 := h4 m (Reach.refl _) (Reach.refl _)
      omega
  have hat : ∀ i, i < n → pn m = m → (pn i = m ↔ Same next m i) := fun i hi e => by
    rw [← hsame m i hm hi, e]
    exact eq_comm
  unfold fairB
  rw [Bool.and_eq_true, Bool.and_eq_true, beq_iff_eq, beq_iff_eq, lpUp_iff, full_iffG (orUp_lt pn bits hb n m)]
  constructor
  · rintro ⟨⟨h1, j, hj, h2, z, hz, h3⟩, h4⟩
    refine ⟨hleast.1 h1, ?_, fun t ht => ?_⟩
    · obtain ⟨z0, z1⟩ : 0 ≤ z ∧ z < n := by
        unfold nbs at hz
        rw [List.getD, List.getElem?_eq_getElem (by omega)] at hz
        exact hI _ (by simp) _ hz
      refine ⟨j, z.toNat, hj, (hat j hj h1).1 h2, edge_iff.2 ?_, (hat z.toNat (by omega) h1).1 h3⟩
      rw [show ((z.toNat : Nat) : Int) = z by omega]
      exact hz
    · obtain ⟨i, a1, a2, a3⟩ := (orUp_bit pn bits m t n).1 (h4 t ht)
      exact ⟨i, a1, (hat i a1 h1).1 a2, a3⟩
  · rintro ⟨h1, ⟨i, k, hi, h2, h3, h4⟩, h5⟩
    have e := hleast.2 h1
    refine ⟨⟨e, i, hi, (hat i hi e).2 h2, (k : Int), edge_iff.1 h3, (hat k (edge_in hI hn h3).2 e).2 h4⟩, fun t ht => ?_⟩
    obtain ⟨i, a1, a2, a3⟩ := h5 t ht
    exact (orUp_bit pn bits m t n).2 ⟨i, a1, (hat i a1 e).2 a2, a3⟩

/-- Parts' numbers as Nats. -/
theorem part_nat {n : Nat} {next : List (List Int)} {part : Nat → Int} (hI : Inside n next) (hn : next.length = n) (hp : ∀ a, a < n → PartOk next part a) : ∃ pn : Nat → Nat, lstI n part = lst n pn ∧ (∀ a, a < n → part a = (pn a : Int)) ∧ ∀ a, a < n → pn a < n := by
  have h : ∀ a, a < n → part a = ((part a).toNat : Int) ∧ (part a).toNat < n := fun a ha => by
    obtain ⟨m, h1, h2, h3, h4⟩ := hp a ha
    have := reach_in hI hn h2 ha
    omega
  refine ⟨fun a => (part a).toNat, ?_, fun a ha => (h a ha).1, fun a ha => (h a ha).2⟩
  unfold lstI lst
  exact List.map_congr_left fun a ha => (h a (List.mem_range.1 ha)).1

end Go.Proofs.Ytbndjailimhbdaa
