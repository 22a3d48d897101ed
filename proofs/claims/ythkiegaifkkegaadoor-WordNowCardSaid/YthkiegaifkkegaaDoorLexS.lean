/- A cheaper look at whether a drawn region may be walked in the order of its text. No condition. -/
import Derived.Deep.QuietTactic
import Derived.BigQuiet
namespace Go.Proofs.YthkiegaifkkegaaDoor
open Go.RowKit
def smOf (ops : Array Oper) (o : Oper) : Option Tmp × List Tmp × List Nat := (o.dst, o.looksAt ops, (o.after.toList.filter fun e => Region.binds .any e).map (·.on))
def smApart (x y : Option Tmp × List Tmp × List Nat) : Bool :=
  (match x.1 with
   | some d => !y.2.1.contains d && y.1 != some d
   | none => true) &&
  (match y.1 with
   | some d => !x.2.1.contains d
   | none => true)
theorem smApart_eq (ops : Array Oper) (x y : Oper) : smApart (smOf ops x) (smOf ops y) = x.apart ops y := rfl
def lexS : List (Option Tmp × List Tmp × List Nat) → Nat → Bool
  | [], _ => true
  | x :: l, k => x.2.2.all (fun j => decide (j < k)) && l.all (fun y => y.2.2.contains k || smApart x y) && lexS l (k + 1)
structure LexI (ops : Array Oper) (k : Nat) (listed : Array Bool) : Prop where
  size : listed.size = ops.size
  at' : ∀ j, j < ops.size → listed[j]? = some (decide (j < k))
theorem LexI.getD {ops : Array Oper} {k : Nat} {listed : Array Bool} (h : LexI ops k listed) (j : Nat) (b : Bool) : listed.getD j b = if j < ops.size then decide (j < k) else b := by
  by_cases hj : j < ops.size
  · rw [if_pos hj, Array.getD_eq_getD_getElem?, h.at' j hj]; rfl
  · rw [if_neg hj, Array.getD_eq_getD_getElem?, Array.getElem?_eq_none (by rw [h.size]; omega)]; rfl
theorem LexI.set {ops : Array Oper} {k : Nat} {listed : Array Bool} (h : LexI ops k listed) : LexI ops (k + 1) (listed.setIfInBounds k true) := by
  refine ⟨by simp [h.size], fun j hj => ?_⟩
  rw [Array.getElem?_setIfInBounds]
  by_cases e : k = j
  · subst e
    rw [if_pos rfl, if_pos (by rw [h.size]; exact hj)]
    simp
  · rw [if_neg e, h.at' j hj]
    congr 1
    by_cases h2 : j < k
    · rw [decide_eq_true h2, decide_eq_true (by omega)]
    · rw [decide_eq_false h2, decide_eq_false (by omega)]
theorem lexS_from {ops : Array Oper} : ∀ (l : List Oper) (k : Nat) (listed : Array Bool), LexI ops k listed → k + l.length = ops.size → (∀ j, l[j]? = ops[k + j]?) → lexS (l.map (smOf ops)) k = true → Region.lexFrom .any ops l.length k listed = true
  | [], k, listed, hI, hk, _, _ => by
    simp only [List.length_nil, Nat.add_zero] at hk
    simp only [List.length_nil, Region.lexFrom, List.isEmpty_iff]
    refine List.eq_nil_iff_forall_not_mem.2 fun j hj => ?_
    obtain ⟨h1, o, ho, _⟩ := mem_ready.1 hj
    have hj2 := (Array.getElem?_eq_some_iff.1 ho).1
    rw [hI.getD, if_pos hj2, decide_eq_false_iff_not] at h1
    omega
  | o :: l, k, listed, hI, hk, hl, hS => by
    have h0 : ops[k]? = some o := by simpa using (hl 0).symm
    have hk2 := (Array.getElem?_eq_some_iff.1 h0).1
    simp only [List.map_cons, lexS, Bool.and_eq_true] at hS
    obtain ⟨⟨h1, h2⟩, h3⟩ := hS
    simp only [List.length_cons, Region.lexFrom, Bool.and_eq_true]
    refine ⟨⟨?_, ?_⟩, lexS_from l (k + 1) _ hI.set (by simp only [List.length_cons] at hk; omega) (fun j => by have := hl (j + 1); simpa [Nat.add_assoc, Nat.add_comm 1 j] using this) h3⟩
    · rw [List.contains_iff_mem]
      refine mem_ready.2 ⟨by rw [hI.getD, if_pos hk2, decide_eq_false_iff_not]; omega, o, h0, fun e he hb => ?_⟩
      rw [List.all_eq_true] at h1
      have := h1 e.on (List.mem_map.2 ⟨e, List.mem_filter.2 ⟨Array.mem_toList_iff.2 he, hb⟩, rfl⟩)
      rw [decide_eq_true_iff] at this
      rw [hI.getD, if_pos (by omega), decide_eq_true_iff]
      exact this
    · unfold Region.free
      rw [h0]
      simp only [List.all_eq_true, List.mem_range]
      intro j hj
      by_cases e : j = k
      · simp [e]
      · by_cases h4 : j < k
        · rw [hI.getD, if_pos hj, decide_eq_true h4]; simp
        · obtain ⟨i, rfl⟩ : ∃ i, j = k + (i + 1) := ⟨j - k - 1, by omega⟩
          have h5 := hl (i + 1)
          simp only [List.getElem?_cons_succ] at h5
          have h6 : ops[k + (i + 1)]? = some (ops[k + (i + 1)]'hj) := Array.getElem?_eq_getElem hj
          rw [List.all_eq_true] at h2
          have h7 := h2 _ (List.mem_map.2 ⟨_, List.mem_of_getElem? (h5.trans h6), rfl⟩)
          rw [h6]
          simp only [smApart_eq, Bool.or_eq_true] at h7 ⊢
          rcases h7 with h7 | h7
          · refine .inr (.inl ?_)
            rw [List.contains_iff_mem] at h7
            obtain ⟨e, he, e2⟩ := List.mem_map.1 h7
            have := List.mem_filter.1 he
            rw [Array.any_eq_true']
            exact ⟨e, Array.mem_toList_iff.1 this.1, by rw [Bool.and_eq_true]; exact ⟨this.2, by rw [beq_iff_eq]; exact e2⟩⟩
          · exact .inr (.inr h7)
theorem lexB_of {ops : Array Oper} {S : List (Option Tmp × List Tmp × List Nat)} (hn : Region.noSelect ops = true) (hs : ops.toList.map (smOf ops) = S) (h : lexS S 0 = true) : Region.lexB .any ops = true := by
  unfold Region.lexB
  rw [hn, Bool.true_and]
  have := lexS_from (ops := ops) ops.toList 0 (Array.replicate ops.size false) ⟨by simp, fun j hj => by simp [hj]⟩ (by simp) (by simp) (by rw [hs]; exact h)
  simpa using this
end Go.Proofs.YthkiegaifkkegaaDoor
