/- Plain words on graphs: what is reached; a search that marks what it meets. No condition. -/
import Derived.Test.YtbndjailimhbdaaRows
namespace Go.Proofs.Ytbndjailimhbdaa

def Edge (next : List (List Int)) (a b : Nat) : Prop := ∃ l, next[a]? = some l ∧ (b : Int) ∈ l
inductive Reach (next : List (List Int)) : Nat → Nat → Prop
  | refl (a : Nat) : Reach next a a
  | step {a b c : Nat} : Reach next a b → Edge next b c → Reach next a c

theorem Reach.trans {next : List (List Int)} {a b c : Nat} (h : Reach next a b) (k : Reach next b c) : Reach next a c := by
  induction k with
  | refl => exact h
  | step _ e ih => exact ih.step e
theorem Reach.edge {next : List (List Int)} {a b : Nat} (h : Edge next a b) : Reach next a b := (Reach.refl a).step h

/-- Each step leads to a spot. -/
def Inside (n : Nat) (next : List (List Int)) : Prop := ∀ l ∈ next, ∀ k ∈ l, (0 : Int) ≤ k ∧ k < n

/-- What is marked; what is still to be gone through; one spot (c) may be half gone through: its first k steps lead to what is marked. -/
structure Seek (n : Nat) (next : List (List Int)) (src : Nat → Prop) (seen : List Bool) (pend : List Int) : Prop where
  len : seen.length = n
  rch : ∀ a : Nat, seen[a]? = some true → ∃ s, src s ∧ Reach next s a
  pen : ∀ x ∈ pend, ∃ a : Nat, x = a ∧ seen[a]? = some true

def Closed (next : List (List Int)) (seen : List Bool) (pend : List Int) (c : Option (Nat × Nat)) : Prop :=
  ∀ a : Nat, seen[a]? = some true → (a : Int) ∈ pend ∨
    match c with
    | none => ∀ b, Edge next a b → seen[b]? = some true
    | some (c, k) => (a ≠ c → ∀ b, Edge next a b → seen[b]? = some true) ∧ (a = c → ∀ l, next[a]? = some l → ∀ b : Nat, (b : Int) ∈ l.take k → seen[b]? = some true)

theorem seen_set {seen : List Bool} {y a : Nat} (h : seen[a]? = some true) : (seen.set y true)[a]? = some true := by
  rw [List.getElem?_set]
  have := (List.getElem?_eq_some_iff.1 h).1
  split
  · subst_vars; simp [this]
  · exact h

theorem set_seen {seen : List Bool} {y a : Nat} (h : (seen.set y true)[a]? = some true) : seen[a]? = some true ∨ a = y := by
  rw [List.getElem?_set] at h
  split at h
  · right; omega
  · exact .inl h

theorem count_set : ∀ (seen : List Bool) (y : Nat), seen[y]? = some false → (seen.set y true).count true = seen.count true + 1
  | b :: seen, 0, h => by simp at h; subst h; simp
  | b :: seen, y + 1, h => by
    have := count_set seen y (by simpa using h)
    simp only [List.set_cons_succ, List.count_cons, this]
    omega

theorem Seek.mark {n : Nat} {next : List (List Int)} {src : Nat → Prop} {seen : List Bool} {pend pend' : List Int} {y : Nat} (h : Seek n next src seen pend) (hy : ∃ s, src s ∧ Reach next s y) (hn : y < n)
    (hp : ∀ x ∈ pend', x ∈ pend ∨ x = y) : Seek n next src (seen.set y true) pend' := by
  refine ⟨by simp [h.len], fun a ha => ?_, fun x hx => ?_⟩
  · rcases set_seen ha with ha | rfl
    · exact h.rch a ha
    · exact hy
  · rcases hp x hx with hx | rfl
    · obtain ⟨a, rfl, ha⟩ := h.pen x hx
      exact ⟨a, rfl, seen_set ha⟩
    · exact ⟨y, rfl, by rw [List.getElem?_set]; simp [h.len, hn]⟩

theorem Closed.mark {next : List (List Int)} {seen : List Bool} {pend pend' : List Int} {c : Option (Nat × Nat)} {y : Nat} (h : Closed next seen pend c) (hp : ∀ x ∈ pend, x ∈ pend') (hy : (y : Int) ∈ pend') :
    Closed next (seen.set y true) pend' c := by
  intro a ha
  by_cases e : a = y
  · subst e; exact .inl hy
  · rcases set_seen ha with ha | ha
    · rcases h a ha with h | h
      · exact .inl (hp _ h)
      · right
        match c, h with
        | none, h => exact fun b hb => seen_set (h b hb)
        | some (c, k), h => exact ⟨fun hc b hb => seen_set (h.1 hc b hb), fun hc l hl b hb => seen_set (h.2 hc l hl b hb)⟩
    · exact absurd ha e

/-- One more step of the spot that is gone through leads to what is marked. -/
theorem Closed.next {next : List (List Int)} {seen : List Bool} {pend : List Int} {c k y : Nat} {l : List Int} (h : Closed next seen pend (some (c, k))) (hl : next[c]? = some l) (hk : l[k]? = some (y : Int)) (hy : seen[y]? = some true) :
    Closed next seen pend (some (c, k + 1)) := by
  intro a ha
  rcases h a ha with h | h
  · exact .inl h
  · refine .inr ⟨h.1, fun hc l' hl' b hb => ?_⟩
    subst hc
    rw [hl] at hl'
    injection hl' with hl'
    subst hl'
    have hlt := (List.getElem?_eq_some_iff.1 hk).1
    rw [List.take_add_one, hk] at hb
    rcases List.mem_append.1 hb with hb | hb
    · exact h.2 rfl l hl b hb
    · simp at hb
      have : b = y := by omega
      subst this
      exact hy

theorem Closed.done {next : List (List Int)} {seen : List Bool} {pend : List Int} {c : Nat} {l : List Int} (h : Closed next seen pend (some (c, l.length))) (hl : next[c]? = some l) : Closed next seen pend none := by
  intro a ha
  rcases h a ha with h | h
  · exact .inl h
  · right
    by_cases hc : a = c
    · rintro b ⟨l', hl', hb⟩
      have := h.2 hc l' hl' b
      rw [hc, hl] at hl'
      injection hl' with hl'
      subst hl'
      exact this (by rw [List.take_length]; exact hb)
    · exact fun b hb => h.1 hc b hb

theorem Closed.begin {next : List (List Int)} {seen : List Bool} {pend pend' : List Int} {c : Nat} (h : Closed next seen pend none) (hp : ∀ x ∈ pend, x = (c : Int) ∨ x ∈ pend') : Closed next seen pend' (some (c, 0)) := by
  intro a ha
  by_cases hc : a = c
  · exact .inr ⟨fun h => absurd hc h, fun _ l _ b hb => by simp at hb⟩
  · rcases h a ha with h | h
    · rcases hp _ h with e | e
      · exact absurd (by omega) hc
      · exact .inl e
    · exact .inr ⟨fun _ => h, fun h => absurd h hc⟩

/-- What a search has marked at its end. -/
theorem seek_end {n : Nat} {next : List (List Int)} {src : Nat → Prop} {seen : List Bool} (h : Seek n next src seen []) (hc : Closed next seen [] none) (hs : ∀ s, src s → seen[s]? = some true) (a : Nat) : seen[a]? = some true ↔ ∃ s, src s ∧ Reach next s a := by
  refine ⟨h.rch a, ?_⟩
  rintro ⟨s, h1, h2⟩
  induction h2 with
  | refl => exact hs s h1
  | step _ e ih =>
    rcases hc _ ih with h | h
    · simp at h
    · exact h _ e

theorem seek_begin (n : Nat) (next : List (List Int)) (src : Nat → Prop) : Seek n next src (List.replicate n false) [] ∧ Closed next (List.replicate n false) [] none := by
  have e : ∀ a : Nat, ¬ (List.replicate n false)[a]? = some true := by
    intro a h
    rw [List.getElem?_replicate] at h
    split at h <;> simp at h
  exact ⟨⟨by simp, fun a h => absurd h (e a), by simp⟩, fun a h => absurd h (e a)⟩

end Go.Proofs.Ytbndjailimhbdaa
