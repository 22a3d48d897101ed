/- Plain words on the store of keys: what adding one makes of it, and what holds of it. -/
import Derived.Test.YtmacgcaehfjoiaaSortP
namespace Go.Proofs.Ytmacgcaehfjoiaa

theorem sorted_eq {l m : List Int} (h1 : l.Pairwise (· ≤ ·)) (h2 : m.Pairwise (· ≤ ·)) (hp : l.Perm m) : l = m :=
  hp.eq_of_pairwise (le := (· ≤ ·)) (fun _ _ _ _ h1 h2 => Int.le_antisymm h1 h2) h1 h2
theorem sortL_eq {l m : List Int} (h1 : m.Pairwise (· ≤ ·)) (hp : l.Perm m) : sortL l = m := sorted_eq (sortL_up l) h1 ((sortL_perm l).trans hp)
theorem sortL_congr {l m : List Int} (hp : l.Perm m) : sortL l = sortL m := sortL_eq (sortL_up m) (hp.trans (sortL_perm m).symm)
theorem sortL_of {l : List Int} (h : l.Pairwise (· ≤ ·)) : sortL l = l := sortL_eq h (List.Perm.refl _)
theorem sortL_app (l m : List Int) : sortL (sortL l ++ m) = sortL (l ++ m) := sortL_congr ((sortL_perm l).append_right m)
theorem sortL_cons {x : Int} {l : List Int} (h : ∀ y ∈ l, x ≤ y) : sortL (x :: l) = x :: sortL l := by
  refine sortL_eq ?_ ((sortL_perm l).symm.cons x)
  rw [List.pairwise_cons]
  exact ⟨fun y hy => h y ((sortL_mem l y).1 hy), sortL_up l⟩
theorem merge_step {x y : Int} {a b : List Int} (h1 : (x :: a).Pairwise (· ≤ ·)) (h2 : (y :: b).Pairwise (· ≤ ·)) (h : x ≤ y) : sortL (x :: a ++ y :: b) = x :: sortL (a ++ y :: b) := by
  refine sortL_cons fun z hz => ?_
  rw [List.pairwise_cons] at h1 h2
  rcases List.mem_append.1 hz with hz | hz
  · exact h1.1 z hz
  · rcases List.mem_cons.1 hz with rfl | hz
    · exact h
    · exact Int.le_trans h (h2.1 z hz)
theorem merge_swap {x y : Int} {a b : List Int} (h1 : (x :: a).Pairwise (· ≤ ·)) (h2 : (y :: b).Pairwise (· ≤ ·)) (h : y ≤ x) : sortL (x :: a ++ y :: b) = y :: sortL (b ++ x :: a) := by
  rw [sortL_congr (List.perm_append_comm)]
  exact merge_step h2 h1 h

/-- A store. -/
structure St where
  loose : List Int
  runs : List (List Int)
def St.keys (s : St) : List Int := s.loose ++ s.runs.flatten

/-- Runs, the last one ahead, merged as long as the last is as long as the one before it. -/
def fold : List (List Int) → List (List Int)
  | r :: q :: t => if q.length ≤ r.length then fold (sortL (q ++ r) :: t) else r :: q :: t
  | l => l
termination_by l => l.length

/-- Lengths alone. -/
def foldN : List Nat → List Nat
  | r :: q :: t => if q ≤ r then foldN ((q + r) :: t) else r :: q :: t
  | l => l
termination_by l => l.length

def binL (u q : Nat) : List Nat := if h : q = 0 then [] else if q % 2 = 1 then u :: binL (2 * u) (q / 2) else binL (2 * u) (q / 2)
termination_by q

theorem binL_eq (u q : Nat) : binL u q = if q = 0 then [] else if q % 2 = 1 then u :: binL (2 * u) (q / 2) else binL (2 * u) (q / 2) := by
  rw [binL]
  split <;> rfl

theorem fold_len : ∀ (l : List (List Int)), (fold l).map List.length = foldN (l.map List.length)
  | [] => by simp [fold, foldN]
  | [r] => by simp [fold, foldN]
  | r :: q :: t => by
    rw [fold, List.map_cons, List.map_cons, foldN]
    by_cases h : q.length ≤ r.length
    · rw [if_pos h, if_pos h, fold_len (sortL (q ++ r) :: t)]
      simp [sortL_len]
    · rw [if_neg h, if_neg h]; simp
termination_by l => l.length

theorem binL_ge : ∀ (q u : Nat), ∀ x ∈ binL u q, u ≤ x ∧ x % u = 0
  | q, u => by
    intro x hx
    rw [binL] at hx
    split at hx
    · simp at hx
    · have ih := binL_ge (q / 2) (2 * u)
      have hk : ∀ x, x ∈ binL (2 * u) (q / 2) → u ≤ x ∧ x % u = 0 := fun x hx => by
        obtain ⟨a, b⟩ := ih x hx
        refine ⟨by omega, ?_⟩
        have h1 : u ∣ 2 * u := ⟨2, by omega⟩
        exact Nat.mod_eq_zero_of_dvd (Nat.dvd_trans h1 (Nat.dvd_of_mod_eq_zero b))
      split at hx
      · rcases List.mem_cons.1 hx with rfl | hx
        · exact ⟨Nat.le_refl _, Nat.mod_self _⟩
        · exact hk x hx
      · exact hk x hx
termination_by q => q
decreasing_by omega

theorem binL_up : ∀ (q u : Nat), 0 < u → (binL u q).Pairwise (· < ·)
  | q, u, hu => by
    rw [binL]
    split
    · simp
    · have ih := binL_up (q / 2) (2 * u) (by omega)
      split
      · rw [List.pairwise_cons]
        exact ⟨fun x hx => by have := (binL_ge _ _ x hx).1; omega, ih⟩
      · exact ih
termination_by q => q
decreasing_by omega

theorem foldN_binL : ∀ (q u : Nat), 0 < u → foldN (u :: binL u q) = binL u (q + 1)
  | q, u, hu => by
    by_cases h0 : q = 0
    · subst h0
      rw [binL_eq u 0, if_pos rfl, binL_eq u (0 + 1), if_neg (show ¬ 0 + 1 = 0 by omega), if_pos (by rfl), binL_eq (2 * u) ((0 + 1) / 2), if_pos (by rfl)]
      simp [foldN]
    · rw [binL_eq u q, if_neg h0, binL_eq u (q + 1), if_neg (show ¬ q + 1 = 0 by omega)]
      by_cases h : q % 2 = 1
      · rw [if_pos h, if_neg (show ¬ (q + 1) % 2 = 1 by omega), foldN, if_pos (Nat.le_refl _)]
        have := foldN_binL (q / 2) (2 * u) (by omega)
        have e : (q + 1) / 2 = q / 2 + 1 := by omega
        rw [e, ← this, show u + u = 2 * u by omega]
      · rw [if_neg h, if_pos (show (q + 1) % 2 = 1 by omega)]
        have e : (q + 1) / 2 = q / 2 := by omega
        rw [e]
        cases hb : binL (2 * u) (q / 2) with
        | nil => simp [foldN]
        | cons x t =>
          have := (binL_ge (q / 2) (2 * u) x (by rw [hb]; simp)).1
          rw [foldN, if_neg (by omega)]
termination_by q => q
decreasing_by omega

/-- Ones of a number. -/
def ones (q : Nat) : Nat := if h : q = 0 then 0 else q % 2 + ones (q / 2)
termination_by q
theorem binL_ones : ∀ (q u : Nat), (binL u q).length = ones q
  | q, u => by
    rw [binL, ones]
    split
    · simp
    · have ih := binL_ones (q / 2) (2 * u)
      split
      · rename_i h; rw [List.length_cons, ih, h]; omega
      · rename_i h; rw [ih]; omega
termination_by q => q
decreasing_by omega

theorem fold_flat : ∀ (l : List (List Int)), (fold l).flatten.Perm l.flatten
  | [] => by simp [fold]
  | [r] => by simp [fold]
  | r :: q :: t => by
    rw [fold]
    by_cases h : q.length ≤ r.length
    · rw [if_pos h]
      refine (fold_flat (sortL (q ++ r) :: t)).trans ?_
      simp only [List.flatten_cons, ← List.append_assoc]
      refine List.Perm.append_right _ ((sortL_perm _).trans List.perm_append_comm)
    · rw [if_neg h]
termination_by l => l.length

theorem fold_up : ∀ (l : List (List Int)), (∀ r ∈ l, r.Pairwise (· ≤ ·)) → ∀ r ∈ fold l, r.Pairwise (· ≤ ·)
  | [], h => by simp [fold]
  | [r], h => by simpa [fold] using h
  | r :: q :: t, h => by
    rw [fold]
    by_cases hl : q.length ≤ r.length
    · rw [if_pos hl]
      refine fold_up (sortL (q ++ r) :: t) ?_
      intro x hx
      rcases List.mem_cons.1 hx with rfl | hx
      · exact sortL_up _
      · exact h x (by simp [hx])
    · rw [if_neg hl]; exact h
termination_by l => l.length

/-- One key more. -/
def St.add (s : St) (n : Int) : St :=
  if n ∈ s.keys then s
  else if s.loose.length + 1 < 8 then ⟨s.loose ++ [n], s.runs⟩
  else ⟨[], (fold (sortL (s.loose ++ [n]) :: s.runs.reverse)).reverse⟩

structure St.Ok (s : St) : Prop where
  lo : s.loose.length = s.keys.length % 8
  rl : s.runs.reverse.map List.length = binL 8 (s.keys.length / 8)
  up : ∀ r ∈ s.runs, r.Pairwise (· ≤ ·)
  nd : s.keys.Nodup
  bd : ∀ x ∈ s.keys, 0 ≤ x ∧ x ≤ 2147483647

theorem flat_rev (l : List (List Int)) : l.reverse.flatten.Perm l.flatten := (List.reverse_perm l).flatten

theorem St.add_perm {s : St} {n : Int} (h : n ∉ s.keys) : (s.add n).keys.Perm (n :: s.keys) := by
  unfold St.add
  rw [if_neg h]
  split
  · unfold St.keys
    simp only [List.append_assoc]
    exact List.perm_middle
  · unfold St.keys
    simp only [List.nil_append]
    refine (flat_rev _).trans ((fold_flat _).trans ?_)
    rw [List.flatten_cons]
    refine ((sortL_perm _).append (flat_rev _)).trans ?_
    simp only [List.append_assoc]
    exact List.perm_middle
theorem St.add_old {s : St} {n : Int} (h : n ∈ s.keys) : s.add n = s := by unfold St.add; rw [if_pos h]
theorem St.add_mem {s : St} {n : Int} (x : Int) : x ∈ (s.add n).keys ↔ x = n ∨ x ∈ s.keys := by
  by_cases h : n ∈ s.keys
  · rw [St.add_old h]
    constructor
    · exact .inr
    · rintro (rfl | h1)
      · exact h
      · exact h1
  · rw [(St.add_perm h).mem_iff, List.mem_cons]
theorem St.add_len {s : St} {n : Int} (h : n ∉ s.keys) : (s.add n).keys.length = s.keys.length + 1 := by rw [(St.add_perm h).length_eq]; simp

theorem St.Ok.add {s : St} (h : s.Ok) {n : Int} (hn : 0 ≤ n ∧ n ≤ 2147483647) : (s.add n).Ok := by
  by_cases hm : n ∈ s.keys
  · rw [St.add_old hm]; exact h
  · have hl := St.add_len hm
    have hlo := h.lo
    refine ⟨?_, ?_, ?_, ?_, fun x hx => ?_⟩
    · rw [hl]
      unfold St.add
      rw [if_neg hm]
      split
      · simp; omega
      · simp; omega
    · rw [hl]
      unfold St.add
      rw [if_neg hm]
      split
      · show s.runs.reverse.map List.length = _
        rw [h.rl]
        congr 1
        omega
      · show ((fold _).reverse).reverse.map List.length = _
        rw [List.reverse_reverse, fold_len, List.map_cons, h.rl, sortL_len]
        have e : (s.loose ++ [n]).length = 8 := by simp; omega
        rw [e, foldN_binL _ _ (by omega)]
        congr 1
        omega
    · unfold St.add
      rw [if_neg hm]
      split
      · exact h.up
      · intro r hr
        refine fold_up _ ?_ r (by simpa using hr)
        intro x hx
        rcases List.mem_cons.1 hx with rfl | hx
        · exact sortL_up _
        · exact h.up x (by simpa using hx)
    · rw [(St.add_perm hm).nodup_iff, List.nodup_cons]
      exact ⟨hm, h.nd⟩
    · rcases (St.add_mem x).1 hx with rfl | hx
      · exact hn
      · exact h.bd x hx

theorem St.Ok.nil : (St.mk [] []).Ok := by
  refine ⟨by simp [St.keys], by simp [St.keys, binL], by simp, by simp [St.keys], by simp [St.keys]⟩

theorem nodup_up {l : List Int} (h1 : l.Pairwise (· ≤ ·)) (h2 : l.Nodup) : l.Pairwise (· < ·) := by
  refine (h1.and h2).imp fun h => ?_
  have := h.1
  have := h.2
  omega
theorem St.Ok.run_up {s : St} (h : s.Ok) {r : List Int} (hr : r ∈ s.runs) : r.Pairwise (· < ·) := by
  refine nodup_up (h.up r hr) ?_
  have h1 := (List.nodup_append.1 h.nd).2.1
  exact (List.sublist_flatten_of_mem hr).nodup h1
theorem St.Ok.run_pos {s : St} (h : s.Ok) {r : List Int} (hr : r ∈ s.runs) : 8 ≤ r.length ∧ r.length % 8 = 0 := by
  refine binL_ge (s.keys.length / 8) 8 _ ?_
  rw [← h.rl, List.mem_map]
  exact ⟨r, by simpa using hr, rfl⟩
theorem St.Ok.runs_down {s : St} (h : s.Ok) : s.runs.Pairwise fun a b => b.length < a.length := by
  have h1 := binL_up (s.keys.length / 8) 8 (by omega)
  rw [← h.rl, List.pairwise_map, List.pairwise_reverse] at h1
  exact h1
theorem St.Ok.runs_ones {s : St} (h : s.Ok) : s.runs.length = ones (s.keys.length / 8) := by
  rw [← binL_ones _ 8, ← h.rl]; simp
theorem St.keys_len (s : St) : s.keys.length = s.loose.length + (s.runs.map List.length).sum := by
  unfold St.keys; rw [List.length_append, List.length_flatten]
theorem St.Ok.all_up {s : St} (h : s.Ok) : (sortL s.keys).Pairwise (· < ·) := nodup_up (sortL_up _) ((sortL_perm _).nodup_iff.2 h.nd)

end Go.Proofs.Ytmacgcaehfjoiaa
