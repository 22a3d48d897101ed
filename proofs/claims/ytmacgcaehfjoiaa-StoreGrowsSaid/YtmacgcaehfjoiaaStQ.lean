/- Plain words on stores that are filled key by key. -/
import Derived.Test.YtmacgcaehfjoiaaStP
namespace Go.Proofs.Ytmacgcaehfjoiaa

/-- A store with its keys in the order in which they came. -/
structure Stk (s : St) (ks : List Int) : Prop where
  ok : s.Ok
  pm : s.keys.Perm ks
theorem Stk.nil : Stk ⟨[], []⟩ [] := ⟨St.Ok.nil, List.Perm.refl _⟩
theorem Stk.mem {s : St} {ks : List Int} (h : Stk s ks) (x : Int) : x ∈ s.keys ↔ x ∈ ks := h.pm.mem_iff
theorem Stk.len {s : St} {ks : List Int} (h : Stk s ks) : s.keys.length = ks.length := h.pm.length_eq
theorem Stk.nd {s : St} {ks : List Int} (h : Stk s ks) : ks.Nodup := h.pm.nodup_iff.1 h.ok.nd
theorem Stk.old {s : St} {ks : List Int} (h : Stk s ks) {n : Int} (hn : n ∈ ks) : s.add n = s := St.add_old ((h.mem n).2 hn)
theorem Stk.fresh {s : St} {ks : List Int} (h : Stk s ks) {n : Int} (hn : n ∉ ks) (hb : 0 ≤ n ∧ n ≤ 2147483647) : Stk (s.add n) (ks ++ [n]) := by
  refine ⟨h.ok.add hb, (St.add_perm fun hm => hn ((h.mem n).1 hm)).trans ?_⟩
  exact (h.pm.cons n).trans (List.perm_append_singleton n ks).symm
theorem Stk.sort {s : St} {ks : List Int} (h : Stk s ks) : sortL s.keys = sortL ks := sortL_congr h.pm
theorem Stk.all_up {s : St} {ks : List Int} (h : Stk s ks) : (sortL ks).Pairwise (· < ·) := h.sort ▸ h.ok.all_up

/-- How many keys a store's runs hold, up to one of them. -/
def manyL (l : List (List Int)) (i : Nat) : Nat := ((l.take i).map List.length).sum
theorem manyL_succ {l : List (List Int)} {i : Nat} (hi : i < l.length) : manyL l (i + 1) = manyL l i + l[i].length := by
  unfold manyL
  rw [List.take_succ_eq_append_getElem hi, List.map_append, List.sum_append_nat]
  simp
theorem manyL_all (l : List (List Int)) : manyL l l.length = (l.map List.length).sum := by unfold manyL; rw [List.take_length]
theorem Stk.many {s : St} {ks : List Int} (h : Stk s ks) : s.loose.length + manyL s.runs s.runs.length = ks.length := by
  rw [manyL_all, ← h.len, St.keys_len]
theorem manyL_le (l : List (List Int)) (i : Nat) : manyL l i ≤ (l.map List.length).sum := by
  unfold manyL
  have := (List.take_append_drop i l)
  calc ((l.take i).map List.length).sum ≤ ((l.take i).map List.length).sum + ((l.drop i).map List.length).sum := Nat.le_add_right _ _
    _ = _ := by rw [← List.sum_append_nat, ← List.map_append, this]

/-- Steps of seven round a list whose length is none of seven's multiples meet each place once. -/
theorem seven_apart {n i j c : Nat} (h7 : n % 7 ≠ 0) (hij : i < j) (hj : j < n) : (j * 7 + c) % n ≠ (i * 7 + c) % n := by
  intro h
  have h1 := Nat.sub_mod_eq_zero_of_mod_eq h
  have h2 : (j * 7 + c) - (i * 7 + c) = (j - i) * 7 := by omega
  rw [h2] at h1
  have hc : Nat.Coprime n 7 := by
    have hp : Nat.gcd n 7 ∣ 7 := Nat.gcd_dvd_right n 7
    have hle : Nat.gcd n 7 ≤ 7 := Nat.le_of_dvd (by omega) hp
    have hd : Nat.gcd n 7 ∣ n := Nat.gcd_dvd_left n 7
    unfold Nat.Coprime
    generalize Nat.gcd n 7 = g at *
    have h17 : ∀ g : Fin 8, 7 % g.1 = 0 → g.1 = 1 ∨ g.1 = 7 := by decide
    rcases h17 ⟨g, by omega⟩ (Nat.mod_eq_zero_of_dvd hp) with e | e
    · exact e
    · exfalso
      simp only at e
      subst e
      exact h7 (Nat.mod_eq_zero_of_dvd hd)
  have h3 := hc.dvd_of_dvd_mul_right (Nat.dvd_of_mod_eq_zero h1)
  have := Nat.le_of_dvd (by omega) h3
  omega

theorem perm_of : ∀ {l m : List Int}, l.Nodup → (∀ x ∈ l, x ∈ m) → m.length ≤ l.length → l.Perm m
  | [], m, _, _, h => by
    have : m = [] := List.eq_nil_of_length_eq_zero (by simpa using h)
    subst this; exact List.Perm.refl _
  | x :: r, m, hn, hs, hl => by
    have hx := hs x (by simp)
    rw [List.nodup_cons] at hn
    have h1 : r.Perm (m.erase x) := perm_of hn.2 (fun y hy => by
      have hy2 := hs y (by simp [hy])
      have : y ≠ x := fun e => hn.1 (e ▸ hy)
      exact (List.mem_erase_of_ne this).2 hy2) (by
      rw [List.length_erase_of_mem hx]
      simp at hl; omega)
    exact (h1.cons x).trans (List.perm_cons_erase hx).symm

/-- The places of a list, seven by seven. -/
def turnL (ks : List Int) (c i : Nat) : List Int := (List.range i).map fun j => ks.getD ((j * 7 + c) % ks.length) 0
theorem turnL_succ (ks : List Int) (c i : Nat) : turnL ks c (i + 1) = turnL ks c i ++ [ks.getD ((i * 7 + c) % ks.length) 0] := by
  unfold turnL; rw [List.range_succ, List.map_append]; rfl
theorem turnL_in {ks : List Int} {c i : Nat} (h : 0 < ks.length) : ∀ x ∈ turnL ks c i, x ∈ ks := by
  intro x hx
  obtain ⟨j, _, rfl⟩ := List.mem_map.1 hx
  have := Nat.mod_lt (j * 7 + c) h
  simp [List.getD, List.getElem?_eq_getElem this]
theorem turnL_new {ks : List Int} {c i : Nat} (hn : ks.Nodup) (h7 : ks.length % 7 ≠ 0) (hi : i < ks.length) : ks.getD ((i * 7 + c) % ks.length) 0 ∉ turnL ks c i := by
  intro hm
  obtain ⟨j, hj, e⟩ := List.mem_map.1 hm
  rw [List.mem_range] at hj
  have h0 : 0 < ks.length := by omega
  have h1 := Nat.mod_lt (j * 7 + c) h0
  have h2 := Nat.mod_lt (i * 7 + c) h0
  have hne := seven_apart (c := c) h7 hj hi
  simp only [List.getD, List.getElem?_eq_getElem h1, List.getElem?_eq_getElem h2, Option.getD_some] at e
  exact hne ((List.getElem_inj hn).1 e).symm
theorem turnL_all {ks : List Int} {c : Nat} (h : (turnL ks c ks.length).Nodup) : sortL (turnL ks c ks.length) = sortL ks := by
  by_cases h0 : ks.length = 0
  · have : ks = [] := List.eq_nil_of_length_eq_zero h0
    subst this; rfl
  · exact sortL_congr (perm_of h (turnL_in (by omega)) (by unfold turnL; simp))

/-- Keys that rise one by one. -/
def riseL (b : Int) (i : Nat) : List Int := (List.range i).map fun j : Nat => b + (j : Int)
theorem riseL_succ (b : Int) (i : Nat) : riseL b (i + 1) = riseL b i ++ [b + (i : Int)] := by
  unfold riseL; rw [List.range_succ, List.map_append]; rfl
theorem riseL_new (b : Int) (i : Nat) : b + (i : Int) ∉ riseL b i := by
  intro hm
  obtain ⟨j, hj, e⟩ := List.mem_map.1 hm
  rw [List.mem_range] at hj
  omega
theorem riseL_sort (b : Int) (i : Nat) : sortL (riseL b i) = riseL b i := by
  refine sortL_of ?_
  unfold riseL
  rw [List.pairwise_map]
  refine (List.pairwise_lt_range (n := i)).imp ?_
  intro a b h
  omega
theorem riseL_len (b : Int) (i : Nat) : (riseL b i).length = i := by unfold riseL; simp
theorem riseL_at (b : Int) (i j : Nat) (h : j < (riseL b i).length) : (riseL b i)[j] = b + (j : Int) := by simp [riseL]

end Go.Proofs.Ytmacgcaehfjoiaa
