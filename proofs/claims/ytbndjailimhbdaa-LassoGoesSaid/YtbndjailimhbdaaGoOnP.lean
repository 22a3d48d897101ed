/- What a leaving does to Tarjan's state, in the words of its memory. -/
import Derived.Test.YtbndjailimhbdaaTSM
namespace Go.Proofs.Ytbndjailimhbdaa
open Go.RowKit

def low1 (s : TS) (c : Nat) (rest : List (Nat × Nat)) : Nat → Nat :=
  match rest with
  | [] => s.low
  | (u, _) :: _ => upd s.low u (min (s.low u) (s.low c))

theorem lowL_lst {n : Nat} {next : List (List Int)} {s : TS} (h : TInv n next s none) {c k : Nat} {rest : List (Nat × Nat)} (hc : s.cs = (c, k) :: rest) : lowL (lst n s.low) (csL rest) c = lst n (low1 s c rest) := by
  have hcn : c < n := h.bnd c (h.csm (c, k) (by rw [hc]; simp)).1
  cases rest with
  | nil => rfl
  | cons p rest =>
    obtain ⟨u, ku⟩ := p
    have hun : u < n := h.bnd u (h.csm (u, ku) (by rw [hc]; simp)).1
    have hg : (csL ((u, ku) :: rest)).getLast? = some ((u : Int), (ku : Int)) := by rw [csL_cons]; simp
    unfold lowL
    rw [hg]
    show (lst n s.low).set ((u : Int)).toNat (min ((lst n s.low).getD ((u : Int)).toNat 0) ((lst n s.low).getD c 0)) = _
    have e : ((u : Int)).toNat = u := by omega
    rw [e, lst_getD n _ hun, lst_getD n _ hcn]
    have e2 : min (s.low u : Int) (s.low c : Int) = ((min (s.low u) (s.low c) : Nat) : Int) := by omega
    rw [e2, lst_upd n s.low _ hun]
    rfl

theorem low1_c {n : Nat} {next : List (List Int)} {s : TS} (h : TInv n next s none) {c k : Nat} {rest : List (Nat × Nat)} (hc : s.cs = (c, k) :: rest) : low1 s c rest c = s.low c := by
  cases rest with
  | nil => rfl
  | cons p rest =>
    obtain ⟨u, ku⟩ := p
    have := (h.top hc).1 (u, ku) (by simp)
    have hne : c ≠ u := fun e => by subst e; simp at this
    exact upd_ne _ _ hne

/-- It stays open. -/
theorem leave_open {n : Nat} {next : List (List Int)} {s : TS} (h : TInv n next s none) {c k : Nat} {rest : List (Nat × Nat)} (hc : s.cs = (c, k) :: rest) (hk : k = (nbs next c).length) (hne : s.low c ≠ s.ord c) :
    TInv n next { s with cs := rest, low := low1 s c rest } none := by
  cases rest with
  | nil => exact absurd (h.root hc) hne
  | cons p rest => exact h.pop hc hk hne

/-- What lies in front of it in open was met behind it. -/
theorem os_parts {n : Nat} {next : List (List Int)} {s : TS} (h : TInv n next s none) {c : Nat} {dd oo : List Nat} (ho : s.os = dd ++ c :: oo) : (∀ y ∈ dd, s.ord c < s.ord y) ∧ (∀ y ∈ oo, s.ord y < s.ord c) := by
  have := h.oso
  rw [ho, List.pairwise_append, List.pairwise_cons] at this
  exact ⟨fun y hy => this.2.2 y hy c (by simp), fun y hy => this.2.1.1 y hy⟩

theorem fold_min_le : ∀ (D : List Nat) (c : Nat), ∃ m : Nat, (D.map fun d : Nat => (d : Int)).foldl min (c : Int) = m ∧ (m = c ∨ m ∈ D) ∧ m ≤ c ∧ ∀ d ∈ D, m ≤ d
  | [], c => ⟨c, rfl, .inl rfl, Nat.le_refl _, by simp⟩
  | d :: D, c => by
    obtain ⟨m, h1, h2, h3, h4⟩ := fold_min_le D (min c d)
    refine ⟨m, ?_, ?_, by omega, ?_⟩
    · rw [List.map_cons, List.foldl_cons]
      have e : min (c : Int) (d : Int) = ((min c d : Nat) : Int) := by omega
      rw [e]; exact h1
    · rcases h2 with h2 | h2
      · rcases Nat.le_total c d with hm | hm
        · rw [Nat.min_eq_left hm] at h2; exact .inl h2
        · rw [Nat.min_eq_right hm] at h2; exact .inr (by rw [h2]; simp)
      · exact .inr (List.mem_cons_of_mem _ h2)
    · intro x hx
      rcases List.mem_cons.1 hx with rfl | hx
      · omega
      · exact h4 x hx

/-- Its part is whole. -/
theorem leave_close {n : Nat} {next : List (List Int)} {s : TS} (h : TInv n next s none) {c k : Nat} {rest : List (Nat × Nat)} (hc : s.cs = (c, k) :: rest) (hk : k = (nbs next c).length) (heq : s.low c = s.ord c) {dd oo : List Nat} (ho : s.os = dd ++ c :: oo) :
    ∃ part', setAll (lstI n s.part) ((c : Int) :: osL dd) (leastOf' c ((c : Int) :: osL dd)) = lstI n part' ∧ TInv n next { s with cs := rest, low := low1 s c rest, os := oo, part := part' } none := by
  obtain ⟨p1, p2⟩ := os_parts h ho
  have hD : (c : Int) :: osL dd = (c :: dd.reverse).map fun d : Nat => (d : Int) := by simp [osL]
  obtain ⟨m, h1, h2, h3, h4⟩ := fold_min_le (c :: dd.reverse) c
  have hbnd : ∀ d ∈ c :: dd.reverse, d < n := fun d hd => h.bnd d (by
    rw [ho]
    rcases List.mem_cons.1 hd with rfl | hd
    · simp
    · exact List.mem_append_left _ (List.mem_reverse.1 hd))
  refine ⟨fun a => if a ∈ c :: dd.reverse then (m : Int) else s.part a, ?_, ?_⟩
  · unfold leastOf'
    rw [hD, h1]
    exact setAll_lst n s.part m _ hbnd
  · have hl : ∀ p ∈ rest, low1 s c rest p.1 = s.low p.1 := by
      cases rest with
      | nil => simp
      | cons q rest =>
        obtain ⟨u, ku⟩ := q
        intro p hp
        have hu := h.W (u, ku) (by rw [hc]; simp)
        have hlt := (h.top hc).1 (u, ku) (by simp)
        show upd s.low u (min (s.low u) (s.low c)) p.1 = s.low p.1
        by_cases e : p.1 = u
        · rw [e, upd_at]
          have : s.low u ≤ s.ord u := hu.1
          have h5 : s.ord u < s.ord c := hlt
          omega
        · exact upd_ne _ _ e
    have hiff : ∀ a, a ∈ c :: dd.reverse ↔ a ∈ dd ++ [c] := fun a => by simp [or_comm]
    have := h.close (D := dd ++ [c]) (os' := oo) (low' := low1 s c rest) (m := m) hc hk heq hl (by rw [ho]; simp) (fun y hy => by
        rcases List.mem_append.1 hy with h | h
        · exact Nat.le_of_lt (p1 y h)
        · simp only [List.mem_singleton] at h; subst h; exact Nat.le_refl _) p2 ((hiff m).1 (by rcases h2 with h | h; rw [h]; simp; exact h)) (fun y hy => h4 y ((hiff y).2 hy))
    simp only [hiff]
    exact this

end Go.Proofs.Ytbndjailimhbdaa
