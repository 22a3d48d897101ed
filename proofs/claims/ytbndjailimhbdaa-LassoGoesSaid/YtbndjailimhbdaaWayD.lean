/- Plain: ways in a graph. No condition. -/
import Derived.Test.YtbndjailimhbdaaFairD
namespace Go.Proofs.Ytbndjailimhbdaa

/-- A way: the spots that it leaves, one behind the other, up to where it ends. -/
inductive Way (next : List (List Int)) : Nat → List Nat → Nat → Prop
  | nil (a : Nat) : Way next a [] a
  | cons {a b c : Nat} {l : List Nat} : Edge next a c → Way next c l b → Way next a (a :: l) b

section
variable {next : List (List Int)}
theorem Way.app {a b c : Nat} {l k : List Nat} (h : Way next a l b) (g : Way next b k c) : Way next a (l ++ k) c := by
  induction h with
  | nil => exact g
  | cons e _ ih => exact .cons e (ih g)
theorem Way.one {a b : Nat} (h : Edge next a b) : Way next a [a] b := .cons h (.nil _)
theorem Way.reach {a b : Nat} {l : List Nat} (h : Way next a l b) : Reach next a b := by
  induction h with
  | nil => exact .refl _
  | cons e _ ih => exact (Reach.edge e).trans ih
theorem Way.of_reach {a b : Nat} (h : Reach next a b) : ∃ l, Way next a l b := by
  induction h with
  | refl => exact ⟨[], .nil _⟩
  | step _ e ih =>
    obtain ⟨l, hl⟩ := ih
    exact ⟨l ++ [_], hl.app (.one e)⟩
theorem Way.edge {a b : Nat} {l : List Nat} (h : Way next a l b) : ∀ i (hi : i < l.length), Edge next l[i] (if h : i + 1 < l.length then l[i + 1] else b) := by
  induction h with
  | nil => intro i hi; simp at hi
  | @cons a b c l e hw ih =>
    intro i hi
    cases i with
    | zero =>
      cases hw with
      | nil => simpa using e
      | cons e2 hw2 => simpa using e
    | succ i =>
      have := ih i (by simpa using hi)
      simpa using this
theorem Way.head {a b : Nat} {l : List Nat} (h : Way next a l b) : ∃ r, l ++ [b] = a :: r := by
  cases h with
  | nil => exact ⟨[], rfl⟩
  | cons e h => exact ⟨_, rfl⟩
theorem Way.head0 {a b : Nat} {l : List Nat} (h : Way next a l b) : (l ++ [b])[0]? = some a := by
  obtain ⟨r, hr⟩ := h.head
  rw [hr]; rfl
theorem Way.all {a b : Nat} {l : List Nat} (h : Way next a l b) : ∀ i ∈ l, Reach next a i ∧ Reach next i b := by
  induction h with
  | nil => intro i hi; simp at hi
  | cons e hw ih =>
    intro i hi
    rcases List.mem_cons.1 hi with rfl | hi
    · exact ⟨.refl _, (Reach.edge e).trans hw.reach⟩
    · exact ⟨(Reach.edge e).trans (ih i hi).1, (ih i hi).2⟩

/-- A way from one of some spots through such as are wanted on the way to one that is wanted. -/
def WayTo (next : List (List Int)) (F : List Nat) (ins wan : Nat → Bool) (l : List Nat) (b : Nat) : Prop :=
  ∃ a ∈ F, Way next a l b ∧ wan b = true ∧ ∀ x ∈ (l ++ [b]).tail, ins x = true

/-- A way that goes round in a fair part and meets all sets. -/
theorem FairAt.round {bits : Nat → Nat} {M n m : Nat} (h : FairAt next bits M n m) : ∃ l, 0 < l.length ∧ Way next m l m ∧ ∀ t, t < M → ∃ i ∈ l, (bits i).testBit t = true := by
  have key : ∀ M', M' ≤ M → ∃ l, Way next m l m ∧ ∀ t, t < M' → ∃ i ∈ l ++ [m], (bits i).testBit t = true := by
    intro M'
    induction M' with
    | zero => intro _; exact ⟨[], .nil _, fun t ht => by omega⟩
    | succ M' ih =>
      intro hM
      obtain ⟨l, hl, hb⟩ := ih (by omega)
      obtain ⟨i, hi, hs, hbit⟩ := h.sets M' (by omega)
      obtain ⟨l1, h1⟩ := Way.of_reach hs.1
      obtain ⟨l2, h2⟩ := Way.of_reach hs.2
      refine ⟨l ++ (l1 ++ l2), hl.app (h1.app h2), fun t ht => ?_⟩
      by_cases e : t = M'
      · subst e
        refine ⟨i, ?_, hbit⟩
        have hh := h2.head0
        cases l2 with
        | nil => simp at hh; subst hh; simp
        | cons y l2 => simp at hh; subst hh; simp
      · obtain ⟨j, hj, hb2⟩ := hb t (by omega)
        refine ⟨j, ?_, hb2⟩
        rcases List.mem_append.1 hj with hj | hj
        · exact List.mem_append_left _ (List.mem_append_left _ hj)
        · exact List.mem_append_right _ hj
  obtain ⟨l, hl, hb⟩ := key M (Nat.le_refl _)
  obtain ⟨i, k, hi, hs, he, hs2⟩ := h.loop
  obtain ⟨l1, h1⟩ := Way.of_reach hs.1
  obtain ⟨l2, h2⟩ := Way.of_reach hs2.2
  have h3 : Way next m (l1 ++ (i :: l2)) m := h1.app (.cons he h2)
  refine ⟨(l1 ++ (i :: l2)) ++ l, by simp; omega, h3.app hl, fun t ht => ?_⟩
  obtain ⟨j, hj, hb2⟩ := hb t ht
  refine ⟨j, ?_, hb2⟩
  rcases List.mem_append.1 hj with hj | hj
  · exact List.mem_append_right _ hj
  · simp at hj
    subst hj
    have hh := h3.head0
    cases hl1 : l1 ++ (i :: l2) with
    | nil => simp at hl1
    | cons y r => rw [hl1] at hh; simp at hh; subst hh; simp
end

end Go.Proofs.Ytbndjailimhbdaa
