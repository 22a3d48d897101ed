/- Plain: a search breadth first, with back pointers. No condition. -/
import Derived.Test.YtbndjailimhbdaaWayD
namespace Go.Proofs.Ytbndjailimhbdaa

/-- A search: F where it began; Q what was met, in its order; par what led there (-1: it began there); i so many are gone through, and of the next one so many steps. -/
structure BInv (next : List (List Int)) (ins wan : Nat → Bool) (F Q : List Nat) (par : List Int) (i c : Nat) : Prop where
  nd : Q.Nodup
  pl : par.length = Q.length
  pre : Q.take F.length = F
  fl : F.length ≤ Q.length
  root : ∀ j, j < F.length → par[j]? = some (-1)
  tree : ∀ j, F.length ≤ j → j < Q.length → ∃ p q k, p < j ∧ Q[p]? = some q ∧ Q[j]? = some k ∧ par[j]? = some (q : Int) ∧ Edge next q k ∧ ins k = true
  nw : ∀ q ∈ Q, wan q = false
  il : i ≤ Q.length
  cl : ∀ j q, j < i → Q[j]? = some q → ∀ k, Edge next q k → ins k = true → k ∈ Q
  cc : ∀ q l, Q[i]? = some q → next[q]? = some l → ∀ k : Nat, (k : Int) ∈ l.take c → ins k = true → k ∈ Q

section
variable {next : List (List Int)} {ins wan : Nat → Bool} {F Q : List Nat} {par : List Int} {i c : Nat}

theorem BInv.start (hF : F.Nodup) (hw : ∀ q ∈ F, wan q = false) : BInv next ins wan F F (List.replicate F.length (-1)) 0 0 where
  nd := hF
  pl := by simp
  pre := List.take_length
  fl := Nat.le_refl _
  root := fun j hj => by rw [List.getElem?_replicate, if_pos hj]
  tree := fun j h1 h2 => by omega
  nw := hw
  il := Nat.zero_le _
  cl := fun j q h => by omega
  cc := fun q l _ _ k hk => by simp at hk

theorem BInv.next_ (h : BInv next ins wan F Q par i c) {q : Nat} {l : List Int} (hq : Q[i]? = some q) (hl : next[q]? = some l) (hc : l.length ≤ c) : BInv next ins wan F Q par (i + 1) 0 where
  nd := h.nd
  pl := h.pl
  pre := h.pre
  fl := h.fl
  root := h.root
  tree := h.tree
  nw := h.nw
  il := (List.getElem?_eq_some_iff.1 hq).1
  cl := fun j q' hj hq' k he hi => by
    by_cases e : j = i
    · subst e
      obtain rfl := Option.some.inj (hq.symm.trans hq')
      obtain ⟨l', h1, h2⟩ := he
      obtain rfl := Option.some.inj (hl.symm.trans h1)
      exact h.cc q l hq hl k (by rw [List.take_of_length_le hc]; exact h2) hi
    · exact h.cl j q' (by omega) hq' k he hi
  cc := fun q l _ _ k hk => by simp at hk

theorem BInv.skip (h : BInv next ins wan F Q par i c) {q : Nat} {l : List Int} (hq : Q[i]? = some q) (hl : next[q]? = some l) {k : Nat} (hk : l[c]? = some (k : Int)) (hs : ins k = true → k ∈ Q) : BInv next ins wan F Q par i (c + 1) where
  nd := h.nd
  pl := h.pl
  pre := h.pre
  fl := h.fl
  root := h.root
  tree := h.tree
  nw := h.nw
  il := h.il
  cl := h.cl
  cc := fun q' l' hq' hl' k' hk' hi => by
    obtain rfl := Option.some.inj (hq.symm.trans hq')
    obtain rfl := Option.some.inj (hl.symm.trans hl')
    rw [List.take_add_one, hk] at hk'
    rcases List.mem_append.1 hk' with hk' | hk'
    · exact h.cc q l hq hl k' hk' hi
    · simp at hk'
      have : k' = k := by omega
      subst this
      exact hs hi

theorem BInv.put (h : BInv next ins wan F Q par i c) {q : Nat} {l : List Int} (hq : Q[i]? = some q) (hl : next[q]? = some l) {k : Nat} (hk : l[c]? = some (k : Int)) (hn : k ∉ Q) (hi : ins k = true) (hw : wan k = false) : BInv next ins wan F (Q ++ [k]) (par ++ [(q : Int)]) i (c + 1) := by
  have hil := (List.getElem?_eq_some_iff.1 hq).1
  refine ⟨?_, by simp [h.pl], ?_, ?_, ?_, ?_, ?_, ?_, ?_, ?_⟩
  · rw [List.nodup_append]
    refine ⟨h.nd, by simp, ?_⟩
    intro a ha b hb e
    simp at hb
    subst hb; subst e
    exact hn ha
  · rw [List.take_append_of_le_length h.fl]; exact h.pre
  · have := h.fl; simp; omega
  · intro j hj
    rw [List.getElem?_append_left (by have := h.fl; rw [h.pl]; omega)]
    exact h.root j hj
  · intro j h1 h2
    by_cases e : j < Q.length
    · obtain ⟨p, q', k', a1, a2, a3, a4, a5, a6⟩ := h.tree j h1 e
      exact ⟨p, q', k', a1, by rw [List.getElem?_append_left (by omega)]; exact a2, by rw [List.getElem?_append_left e]; exact a3, by rw [List.getElem?_append_left (by rw [h.pl]; exact e)]; exact a4, a5, a6⟩
    · have e2 : j = Q.length := by simp at h2; omega
      subst e2
      refine ⟨i, q, k, hil, by rw [List.getElem?_append_left hil]; exact hq, by simp, by rw [← h.pl]; simp, ⟨l, hl, List.mem_of_getElem? hk⟩, hi⟩
  · intro x hx
    rcases List.mem_append.1 hx with hx | hx
    · exact h.nw x hx
    · simp at hx; subst hx; exact hw
  · simp; omega
  · intro j q' hj hq' k' he hi'
    rw [List.getElem?_append_left (by omega)] at hq'
    exact List.mem_append_left _ (h.cl j q' hj hq' k' he hi')
  · intro q' l' hq' hl' k' hk' hi'
    rw [List.getElem?_append_left hil] at hq'
    obtain rfl := Option.some.inj (hq.symm.trans hq')
    obtain rfl := Option.some.inj (hl.symm.trans hl')
    rw [List.take_add_one, hk] at hk'
    rcases List.mem_append.1 hk' with hk' | hk'
    · exact List.mem_append_left _ (h.cc q l hq hl k' hk' hi')
    · simp at hk'
      have : k' = k := by omega
      subst this
      simp

/-- When all is gone through nothing that is wanted can be come to. -/
theorem BInv.none_ (h : BInv next ins wan F Q par Q.length 0) {l : List Nat} {b : Nat} : ¬ WayTo next F ins wan l b := by
  rintro ⟨a, ha, hw, hb, hi⟩
  have ha2 : a ∈ Q := by
    rw [← h.pre] at ha
    exact List.mem_of_mem_take ha
  have key : ∀ {a l b}, Way next a l b → a ∈ Q → (∀ x ∈ (l ++ [b]).tail, ins x = true) → b ∈ Q := by
    intro a l b hw
    induction hw with
    | nil => intro h _; exact h
    | @cons a b c l e hw ih =>
      intro ha hi
      obtain ⟨j, hj, e2⟩ := List.mem_iff_getElem.1 ha
      obtain ⟨r, hr⟩ := hw.head
      have hall : ∀ x ∈ l ++ [b], ins x = true := fun x hx => hi x (by simpa using hx)
      have hc : c ∈ Q := h.cl j a hj (by rw [List.getElem?_eq_getElem hj, e2]) c e (hall c (by rw [hr]; simp))
      exact ih hc fun x hx => hall x (by rw [hr] at hx ⊢; simp at hx ⊢; exact .inr hx)
  have := h.nw b (key hw ha2 hi)
  rw [hb] at this
  cases this

/-- While a way is read back: l is what was read; k what comes next. -/
structure Back (next : List (List Int)) (ins wan : Nat → Bool) (F : List Nat) (k : Nat) (l : List Nat) : Prop where
  way : ∃ r b, l = r ++ [b] ∧ wan b = true ∧ ∃ a, Edge next k a ∧ Way next a r b ∧ ∀ x ∈ l, ins x = true

theorem Back.more {k q : Nat} {l : List Nat} (h : Back next ins wan F k l) (he : Edge next q k) (hi : ins k = true) : Back next ins wan F q (k :: l) := by
  obtain ⟨r, b, rfl, hb, a, h1, h2, h3⟩ := h.way
  refine ⟨k :: r, b, rfl, hb, k, he, .cons h1 h2, fun x hx => ?_⟩
  rcases List.mem_cons.1 hx with rfl | hx
  · exact hi
  · exact h3 x hx
theorem Back.first {k q : Nat} (he : Edge next q k) (hi : ins k = true) (hw : wan k = true) : Back next ins wan F q [k] :=
  ⟨[], k, rfl, hw, k, he, .nil _, fun x hx => by simp at hx; subst hx; exact hi⟩
theorem Back.done {k : Nat} {l : List Nat} (h : Back next ins wan F k l) (hk : k ∈ F) : ∃ r b, k :: l = r ++ [b] ∧ WayTo next F ins wan r b := by
  obtain ⟨r, b, rfl, hb, a, h1, h2, h3⟩ := h.way
  exact ⟨k :: r, b, rfl, k, hk, .cons h1 h2, hb, fun x hx => h3 x (by simpa using hx)⟩
end

end Go.Proofs.Ytbndjailimhbdaa
