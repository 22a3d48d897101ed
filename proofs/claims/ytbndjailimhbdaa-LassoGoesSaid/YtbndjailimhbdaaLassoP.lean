/- Plain: what a lasso goes through. No condition. -/
import Derived.Test.YtbndjailimhbdaaLasP
namespace Go.Proofs.Ytbndjailimhbdaa

theorem LassoOk.steps {next : List (List Int)} {bits : Nat → Nat} {M init : Nat} {st lp : List Nat} (h : LassoOk next bits M init st lp) :
    ∃ (s : Nat) (h0 : 0 < lp.length), s < init ∧ (st ++ lp)[0]? = some s ∧ ∀ i (hi : i < (st ++ lp).length), Edge next (st ++ lp)[i] (if h : i + 1 < (st ++ lp).length then (st ++ lp)[i + 1] else lp[0]) := by
  obtain ⟨s, home, h1, h2, h3, h4, _⟩ := h
  have hw := h2.app h4
  have hh : lp[0] = home := by
    have h := h4.head0
    rw [List.getElem?_append_left h3, List.getElem?_eq_getElem h3] at h
    exact Option.some.inj h
  refine ⟨s, h3, h1, ?_, fun i hi => ?_⟩
  · have h := hw.head0
    rw [List.getElem?_append_left (by rw [List.length_append]; omega)] at h
    exact h
  · have := hw.edge i hi
    rw [hh]
    exact this

theorem all_bits {x M : Nat} (h : x < 2 ^ M) (hb : ∀ t, t < M → x.testBit t = true) : x = 2 ^ M - 1 := by
  apply Nat.eq_of_testBit_eq
  intro t
  rw [Nat.testBit_two_pow_sub_one]
  by_cases ht : t < M
  · rw [hb t ht]; simp [ht]
  · have : x.testBit t = false := Nat.testBit_lt_two_pow (Nat.lt_of_lt_of_le h (Nat.pow_le_pow_right (by omega) (by omega)))
    rw [this]; simp [ht]
theorem LassoOk.met {next : List (List Int)} {bits : Nat → Nat} {M init : Nat} {st lp : List Nat} (h : LassoOk next bits M init st lp) (hb : ∀ i, bits i < 2 ^ M) : orL bits lp = 2 ^ M - 1 := by
  obtain ⟨_, _, _, _, _, _, h5⟩ := h
  exact all_bits (orL_lt hb lp) fun t ht => (orL_bit _ _ _).2 (h5 t ht)

/-- What the loop's first spots meet. -/
theorem orL_take {bits : Nat → Nat} {st lp : List Nat} {i : Nat} (hi : i < (st ++ lp).length) (hs : st.length ≤ i) : orL bits (lp.take (i + 1 - st.length)) = orL bits (lp.take (i - st.length)) ||| bits ((st ++ lp)[i]) := by
  have e : i + 1 - st.length = (i - st.length) + 1 := by omega
  rw [List.length_append] at hi
  rw [e, List.take_succ_eq_append_getElem (by omega), orL_snoc]
  congr 2
  rw [List.getElem_append_right hs]

end Go.Proofs.Ytbndjailimhbdaa
