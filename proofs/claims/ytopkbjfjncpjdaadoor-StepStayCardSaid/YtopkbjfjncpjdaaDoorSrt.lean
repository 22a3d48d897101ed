/- Srt: what is needed of it. No condition. -/
import Derived.Test.YtopkbjfjncpjdaaDoorMem
import Derived.Test.YtopkbjfjncpjdaaDoorSrtI
import Derived.Test.YtopkbjfjncpjdaaDoorShelf
import Derived.Sort.OwnSortedInts
import Derived.Lib.SlicesCompact
namespace Go.Proofs.YtopkbjfjncpjdaaDoor
open Go.RowKit Go.Sort Go.Lib
theorem comp_law (d : Array Int) (hd : ∀ i j, i ≤ j → j < d.size → d[i]! ≤ d[j]!) : ∀ m, m ≤ d.size → (∀ x, x ∈ compactUpTo d m ↔ ∃ j, j < m ∧ d[j]! = x) ∧ (compactUpTo d m).Pairwise (· < ·)
  | 0, _ => by simp [compactUpTo]
  | m + 1, hm => by
    obtain ⟨h1, h2⟩ := comp_law d hd m (by omega)
    rw [compactUpTo_succ]
    cases hk : keeps d m
    · have hm0 : m ≠ 0 := by
        intro e
        subst e
        simp [keeps] at hk
      have he : d[m]! = d[m - 1]! := by
        simp only [keeps, decide_eq_false_iff_not, not_or, Decidable.not_not] at hk
        exact hk.2
      simp only [Bool.false_eq_true, if_false, List.append_nil]
      refine ⟨fun x => (h1 x).trans ⟨fun ⟨j, a, b⟩ => ⟨j, by omega, b⟩, fun ⟨j, a, b⟩ => ?_⟩, h2⟩
      by_cases e : j = m
      · subst e; exact ⟨j - 1, by omega, by rw [← he]; exact b⟩
      · exact ⟨j, by omega, b⟩
    · simp only [if_true]
      refine ⟨fun x => ?_, ?_⟩
      · rw [List.mem_append, h1]
        simp only [List.mem_singleton]
        constructor
        · rintro (⟨j, a, b⟩ | rfl)
          · exact ⟨j, by omega, b⟩
          · exact ⟨m, by omega, rfl⟩
        · rintro ⟨j, a, b⟩
          by_cases e : j = m
          · subst e; exact .inr b.symm
          · exact .inl ⟨j, by omega, b⟩
      · rw [List.pairwise_append]
        refine ⟨h2, by simp, ?_⟩
        intro x hx y hy
        simp only [List.mem_singleton] at hy
        subst hy
        obtain ⟨j, a, rfl⟩ := (h1 x).1 hx
        have h3 := hd j (m - 1) (by omega) (by omega)
        have h4 := hd (m - 1) m (by omega) (by omega)
        simp only [keeps, decide_eq_true_eq] at hk
        rcases hk with e | e
        · omega
        · omega
def setL (l : List Int) : List Int := compact (sortL l)
theorem setL_up (l : List Int) : (setL l).Pairwise (· < ·) ∧ ∀ x, x ∈ setL l ↔ x ∈ l := by
  have hs := sortL_up l
  have hd : ∀ i j, i ≤ j → j < (sortL l).toArray.size → (sortL l).toArray[i]! ≤ (sortL l).toArray[j]! := by
    intro i j hij hj
    have hj' : j < (sortL l).length := by simpa using hj
    have hi' : i < (sortL l).length := by omega
    simp only [List.getElem!_toArray]
    rw [getElem!_pos _ i hi', getElem!_pos _ j hj']
    rcases Nat.lt_or_ge i j with h | h
    · exact List.pairwise_iff_getElem.1 hs i j hi' hj' h
    · have : i = j := by omega
      subst this; exact Int.le_refl _
  obtain ⟨h1, h2⟩ := comp_law (sortL l).toArray hd (sortL l).length (by simp)
  refine ⟨h2, fun x => ?_⟩
  show x ∈ compactUpTo (sortL l).toArray (sortL l).length ↔ _
  rw [h1, ← sortL_mem l x]
  constructor
  · rintro ⟨j, hj, rfl⟩
    simp only [List.getElem!_toArray]
    rw [getElem!_pos _ j hj]
    simp
  · intro hx
    obtain ⟨j, hj, e⟩ := List.mem_iff_getElem.1 hx
    refine ⟨j, hj, ?_⟩
    simp only [List.getElem!_toArray]
    rw [getElem!_pos _ j hj]; exact e
theorem setL_len (l : List Int) : (setL l).length ≤ l.length := by
  unfold setL compact compactUpTo
  rw [List.length_map]
  have := List.length_filter_le (keeps (sortL l).toArray) (List.range (sortL l).length)
  rw [List.length_range] at this
  exact Nat.le_trans this (Nat.le_of_eq (sortL_len l))
theorem compactI_any (v : Value) (l : List Int) (base : Nat) (w : World) (h : w.ownsRow base 3 1 v l.length (l.map (.int .i64))) (hl : l.length ≤ 1048576) :
    Calls Tryd.prog 25 #[v] w fun e w' => ∃ v', e = .returned v' ∧ w'.ownsRow base 3 1 v' (compact l).length ((compact l).map (.int .i64)) ∧ w.grownBy w' v.ownBlock ∧ v'.ownBlock = v.ownBlock := by
  rcases h.2 with ⟨rfl, h0⟩ | ⟨g, cap, cur, rfl, hg, hc, hn, hcm, hcs, ht⟩
  · obtain rfl : l = [] := List.eq_nil_of_length_eq_zero h0
    refine (Tryd.slices_Compact_int_empty none 0 w).mono ?_
    rintro e w' ⟨rfl, rfl⟩
    exact ⟨_, rfl, h, ⟨rfl, rfl, rfl, Nat.le_refl _, fun _ _ _ => rfl⟩, rfl⟩
  · refine (Tryd.slices_Compact_int g 0 cap l w (holds_of_blockI hc (by simpa using ht)) (by omega) hn).mono ?_
    rintro e w' ⟨rfl, q, rfl⟩
    have hle : (compact l).length ≤ l.length := by
      unfold compact compactUpTo
      rw [List.length_map]
      have := List.length_filter_le (keeps l.toArray) (List.range l.length)
      rwa [List.length_range] at this
    have e0 : putRow (Value.int .i64) (Sort.ahead w q) g 0 (compact l ++ List.replicate (l.length - (compact l).length) 0).toArray = grow (putRow (Value.int .i64) (Sort.ahead w q) g 0 (compact l ++ List.replicate (l.length - (compact l).length) 0).toArray) #[] := by simp
    rw [e0]
    have hL : (compact l ++ List.replicate (l.length - (compact l).length) 0).length = l.length := by simp; omega
    have ho := ownsRow_sortedI (w := w) (n := q) (os := #[]) (ss := l) hL hg hc hn hcm hcs
    refine ⟨_, rfl, ⟨by simp, .inr ⟨g, cap, _, rfl, hg, heap_sortedI _ hc, by omega, hcm, by simp [putCells, hcs], ?_⟩⟩, grownBy_sortedI _, rfl⟩
    have ht2 := take_putCellsI cur (compact l ++ List.replicate (l.length - (compact l).length) 0) (by rw [hL]; omega)
    rw [hL] at ht2
    have hk : ∀ X : List Value, X.take (compact l).length = (X.take l.length).take (compact l).length := fun X => by rw [List.take_take, Nat.min_eq_left hle]
    rw [Nat.mul_one, hk, ht2, List.map_append]
    exact List.take_left' (by simp)
end Go.Proofs.YtopkbjfjncpjdaaDoor
