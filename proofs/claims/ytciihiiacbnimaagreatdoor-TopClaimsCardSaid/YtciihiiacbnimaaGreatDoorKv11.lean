/- Several texts in one: XpP. No condition. -/
import Derived.Test.YtciihiiacbnimaaGreatDoorKv3
import Derived.Test.YtciihiiacbnimaaGreatDoorKv4
namespace Go.Proofs.YtciihiiacbnimaaGreatDoor
open Go.RowKit
def Leads (X : List Sp2) (l : List Int) (ys : List Sp2) : Prop :=
  l.length = ys.length ∧ ∀ (t : Nat) (k : Int) (y : Sp2), l[t]? = some k → ys[t]? = some y → ∃ n : Nat, k = n ∧ X[n]? = some y
theorem Leads.nil (X : List Sp2) : Leads X [] [] := ⟨rfl, by intro t k y h; simp at h⟩
theorem Leads.grow {X : List Sp2} {l : List Int} {ys : List Sp2} (h : Leads X l ys) (Z : List Sp2) : Leads (X ++ Z) l ys := ⟨h.1, fun t k y hk hy => by
  obtain ⟨n, e, hn⟩ := h.2 t k y hk hy
  exact ⟨n, e, by rw [List.getElem?_append_left (List.getElem?_eq_some_iff.1 hn).1]; exact hn⟩⟩
theorem Leads.snoc {X : List Sp2} {l : List Int} {ys : List Sp2} (h : Leads X l ys) {n : Nat} {y : Sp2} (hy : X[n]? = some y) : Leads X (l ++ [(n : Int)]) (ys ++ [y]) := ⟨by simp [h.1], fun t k z hk hz => by
  by_cases ht : t < l.length
  · rw [List.getElem?_append_left ht] at hk
    rw [List.getElem?_append_left (by rw [← h.1]; exact ht)] at hz
    exact h.2 t k z hk hz
  · have e : t = l.length := by have := (List.getElem?_eq_some_iff.1 hk).1; simp at this; omega
    subst e
    rw [List.getElem?_append_right (by omega)] at hk
    rw [List.getElem?_append_right (by rw [h.1]; omega)] at hz
    rw [h.1] at hz
    simp at hk hz
    subst hk; subst hz
    exact ⟨n, rfl, hy⟩⟩
structure XInv (B : Sp2 → List Sp2) (O : Sp2 → Prop) (I X : List Sp2) (nx : List (List Int)) (cur : List Int) (t : Nat) : Prop where
  nd : X.Nodup
  pre : X.take I.length = I
  ok : ∀ x ∈ X, O x
  le : nx.length ≤ X.length
  done : ∀ (j : Nat) (l : List Int) (x : Sp2), nx[j]? = some l → X[j]? = some x → Leads X l (B x)
  now : ∀ x, X[nx.length]? = some x → Leads X cur ((B x).take t)
  met : ∀ k, I.length ≤ k → k < X.length → ∃ (j : Nat) (l : List Int), j < k ∧ (nx ++ [cur])[j]? = some l ∧ (k : Int) ∈ l
section
variable {B : Sp2 → List Sp2} {O : Sp2 → Prop} {I X : List Sp2} {nx : List (List Int)} {cur : List Int} {t : Nat}
theorem XInv.start (h : I.Nodup) (ho : ∀ x ∈ I, O x) : XInv B O I I [] [] 0 where
  nd := h
  pre := List.take_length
  ok := ho
  le := Nat.zero_le _
  done := by intro j l x hj; simp at hj
  now := fun x _ => Leads.nil _
  met := fun k h1 h2 => by omega
theorem XInv.ilen (h : XInv B O I X nx cur t) : I.length ≤ X.length := by
  have := congrArg List.length h.pre
  rw [List.length_take] at this
  omega
theorem XInv.old (h : XInv B O I X nx cur t) {x : Sp2} (hx : X[nx.length]? = some x) {y : Sp2} (hy : (B x)[t]? = some y) {n : Nat} (hn : X[n]? = some y) : XInv B O I X nx (cur ++ [(n : Int)]) (t + 1) where
  nd := h.nd
  pre := h.pre
  ok := h.ok
  le := h.le
  done := h.done
  now := fun z hz => by
    obtain rfl : x = z := Option.some.inj (hx.symm.trans hz)
    rw [List.take_add_one, hy]
    exact (h.now _ hx).snoc hn
  met := fun k h1 h2 => by
    obtain ⟨j, l, hj, hl, hk⟩ := h.met k h1 h2
    by_cases e : j < nx.length
    · rw [List.getElem?_append_left e] at hl
      exact ⟨j, l, hj, by rw [List.getElem?_append_left e]; exact hl, hk⟩
    · have e2 : j = nx.length := by have := (List.getElem?_eq_some_iff.1 hl).1; simp at this; omega
      subst e2
      rw [List.getElem?_append_right (by omega)] at hl
      simp at hl
      subst hl
      exact ⟨nx.length, cur ++ [(n : Int)], hj, by simp, List.mem_append_left _ hk⟩
theorem XInv.grow (h : XInv B O I X nx cur t) {x : Sp2} (hx : X[nx.length]? = some x) {y : Sp2} (hy : (B x)[t]? = some y) (hn : y ∉ X) (ho : O y) : XInv B O I (X ++ [y]) nx (cur ++ [(X.length : Int)]) (t + 1) where
  nd := by
    rw [List.nodup_append]
    refine ⟨h.nd, by simp, ?_⟩
    intro a ha b hb e
    simp at hb
    subst hb; subst e
    exact hn ha
  pre := by rw [List.take_append_of_le_length h.ilen]; exact h.pre
  ok := fun z hz => by
    rcases List.mem_append.1 hz with hz | hz
    · exact h.ok z hz
    · simp at hz; subst hz; exact ho
  le := by have := h.le; simp; omega
  done := fun j l z hj hz => by
    have hjl := (List.getElem?_eq_some_iff.1 hj).1
    rw [List.getElem?_append_left (by have := h.le; omega)] at hz
    exact (h.done j l z hj hz).grow _
  now := fun z hz => by
    have hlt := (List.getElem?_eq_some_iff.1 hx).1
    rw [List.getElem?_append_left hlt] at hz
    obtain rfl : x = z := Option.some.inj (hx.symm.trans hz)
    rw [List.take_add_one, hy]
    exact ((h.now _ hx).grow [y]).snoc (by simp)
  met := fun k h1 h2 => by
    by_cases hk : k < X.length
    · obtain ⟨j, l, hj, hl, hk⟩ := h.met k h1 hk
      by_cases e : j < nx.length
      · rw [List.getElem?_append_left e] at hl
        exact ⟨j, l, hj, by rw [List.getElem?_append_left e]; exact hl, hk⟩
      · have e2 : j = nx.length := by have := (List.getElem?_eq_some_iff.1 hl).1; simp at this; omega
        subst e2
        rw [List.getElem?_append_right (by omega)] at hl
        simp at hl
        subst hl
        exact ⟨nx.length, cur ++ [(X.length : Int)], hj, by simp, List.mem_append_left _ hk⟩
    · have e : k = X.length := by simp at h2; omega
      subst e
      have hlt := (List.getElem?_eq_some_iff.1 hx).1
      exact ⟨nx.length, cur ++ [(X.length : Int)], hlt, by simp, by simp⟩
theorem XInv.row (h : XInv B O I X nx cur t) {x : Sp2} (hx : X[nx.length]? = some x) (ht : t = (B x).length) : XInv B O I X (nx ++ [cur]) [] 0 where
  nd := h.nd
  pre := h.pre
  ok := h.ok
  le := by have := (List.getElem?_eq_some_iff.1 hx).1; simp; omega
  done := fun j l z hj hz => by
    by_cases e : j < nx.length
    · rw [List.getElem?_append_left e] at hj
      exact h.done j l z hj hz
    · have e2 : j = nx.length := by have := (List.getElem?_eq_some_iff.1 hj).1; simp at this; omega
      subst e2
      rw [List.getElem?_append_right (by omega)] at hj
      simp at hj
      subst hj
      obtain rfl : x = z := Option.some.inj (hx.symm.trans hz)
      have := h.now _ hx
      rw [ht, List.take_length] at this
      exact this
  now := fun _ _ => Leads.nil _
  met := fun k h1 h2 => by
    obtain ⟨j, l, hj, hl, hk⟩ := h.met k h1 h2
    exact ⟨j, l, hj, by rw [List.getElem?_append_left (by have := (List.getElem?_eq_some_iff.1 hl).1; simpa using this)]; exact hl, hk⟩
structure XDone (B : Sp2 → List Sp2) (O : Sp2 → Prop) (I X : List Sp2) (nx : List (List Int)) : Prop where
  nd : X.Nodup
  pre : X.take I.length = I
  ok : ∀ x ∈ X, O x
  len : nx.length = X.length
  lead : ∀ (j : Nat) (l : List Int) (x : Sp2), nx[j]? = some l → X[j]? = some x → Leads X l (B x)
  reach : ∀ k, k < X.length → ∃ s, s < I.length ∧ Reach nx s k
theorem XInv.last (h : XInv B O I X nx [] 0) (hl : nx.length = X.length) : XDone B O I X nx where
  nd := h.nd
  pre := h.pre
  ok := h.ok
  len := hl
  lead := h.done
  reach := by
    intro k
    induction k using Nat.strongRecOn with
    | ind k ih =>
      intro hk
      by_cases hi : k < I.length
      · exact ⟨k, hi, Reach.refl _⟩
      · obtain ⟨j, l, hj, hl2, hm⟩ := h.met k (by omega) hk
        obtain ⟨s, hs, hr⟩ := ih j hj (by omega)
        have : nx[j]? = some l := by
          by_cases e : j < nx.length
          · rw [List.getElem?_append_left e] at hl2; exact hl2
          · have e2 : j = nx.length := by have := (List.getElem?_eq_some_iff.1 hl2).1; simp at this; omega
            subst e2
            simp at hl2
            subst hl2
            simp at hm
        exact ⟨s, hs, hr.step ⟨l, this, hm⟩⟩
theorem XDone.ilen (h : XDone B O I X nx) : I.length ≤ X.length := by
  have := congrArg List.length h.pre
  rw [List.length_take] at this
  omega
theorem nodup_at {X : List Sp2} (h : X.Nodup) {i j : Nat} {x : Sp2} (hi : X[i]? = some x) (hj : X[j]? = some x) : i = j := by
  obtain ⟨a, ha⟩ := List.getElem?_eq_some_iff.1 hi
  obtain ⟨b, hb⟩ := List.getElem?_eq_some_iff.1 hj
  rw [List.Nodup, List.pairwise_iff_getElem] at h
  rcases Nat.lt_trichotomy i j with q | q | q
  · exact absurd (ha.trans hb.symm) (h i j a b q)
  · exact q
  · exact absurd (hb.trans ha.symm) (h j i b a q)
theorem XDone.edge (h : XDone B O I X nx) {i k : Nat} {x : Sp2} (hx : X[i]? = some x) : Edge nx i k ↔ ∃ y, X[k]? = some y ∧ y ∈ B x := by
  have hi := (List.getElem?_eq_some_iff.1 hx).1
  have hl : nx[i]? = some (nx[i]'(by rw [h.len]; exact hi)) := List.getElem?_eq_getElem _
  have hL := h.lead i _ x hl hx
  constructor
  · rintro ⟨l, h1, h2⟩
    obtain rfl := Option.some.inj (hl.symm.trans h1)
    obtain ⟨t, ht, e⟩ := List.mem_iff_getElem.1 h2
    have hb : t < (B x).length := by rw [← hL.1]; exact ht
    obtain ⟨n, e1, e2⟩ := hL.2 t k (B x)[t] (by rw [List.getElem?_eq_getElem ht, e]) (List.getElem?_eq_getElem hb)
    have : n = k := by omega
    subst this
    exact ⟨_, e2, by simp⟩
  · rintro ⟨y, h1, h2⟩
    obtain ⟨t, ht, e⟩ := List.mem_iff_getElem.1 h2
    have hb : t < (nx[i]'(by rw [h.len]; exact hi)).length := by rw [hL.1]; exact ht
    obtain ⟨n, e1, e2⟩ := hL.2 t _ y (List.getElem?_eq_getElem hb) (by rw [List.getElem?_eq_getElem ht, e])
    obtain rfl := nodup_at h.nd e2 h1
    exact ⟨_, hl, by rw [← e1]; simp⟩
end
theorem nodup_boundN : ∀ (n : Nat) {l : List Int}, l.Nodup → (∀ x ∈ l, 0 ≤ x ∧ x < (n : Int)) → l.length ≤ n
  | 0, l, _, h => by
    cases l with
    | nil => simp
    | cons x r => have := h x (by simp); omega
  | n + 1, l, hn, h => by
    by_cases hm : (n : Int) ∈ l
    · have h1 := nodup_boundN n (l := l.erase (n : Int)) (hn.erase _) fun x hx => by
        have h2 := hn.mem_erase_iff.1 hx
        have h3 := h x h2.2
        have h4 := h2.1
        omega
      rw [List.length_erase_of_mem hm] at h1
      omega
    · have h1 := nodup_boundN n hn fun x hx => by
        have h3 := h x hx
        have : x ≠ (n : Int) := fun e => hm (e ▸ hx)
        omega
      omega
theorem pairs_bound (C N : Nat) {X : List Sp2} (hn : X.Nodup) (hb : ∀ x ∈ X, 0 ≤ x.1 ∧ x.1 < (C : Int) ∧ 0 ≤ x.2 ∧ x.2 < (N : Int)) : X.length ≤ C * N := by
  have h := nodup_boundN (C * N) (l := X.map fun x => x.1 * (N : Int) + x.2) (by
    rw [List.Nodup, List.pairwise_map]
    refine hn.imp_of_mem fun {a b} ha hb' hne e => hne ?_
    have h1 := hb a ha
    have h2 := hb b hb'
    have e1 : a.1 = b.1 := by
      have q1 : (a.1 * (N : Int) + a.2) / (N : Int) = a.1 := by
        rw [Int.add_comm, Int.add_mul_ediv_right _ _ (by omega), Int.ediv_eq_zero_of_lt h1.2.2.1 h1.2.2.2]; omega
      have q2 : (b.1 * (N : Int) + b.2) / (N : Int) = b.1 := by
        rw [Int.add_comm, Int.add_mul_ediv_right _ _ (by omega), Int.ediv_eq_zero_of_lt h2.2.2.1 h2.2.2.2]; omega
      rw [← q1, ← q2, e]
    have e2 : a.2 = b.2 := by rw [e1] at e; omega
    exact Prod.ext e1 e2) (by
    intro z hz
    obtain ⟨x, hx, rfl⟩ := List.mem_map.1 hz
    have h1 := hb x hx
    have hN : (0 : Int) < N := by omega
    refine ⟨by have := Int.mul_nonneg h1.1 (Int.le_of_lt hN); omega, ?_⟩
    have h2 : (x.1 + 1) * (N : Int) ≤ (C : Int) * (N : Int) := Int.mul_le_mul_of_nonneg_right (by omega) (by omega)
    rw [Int.add_mul] at h2
    push_cast
    omega)
  simpa using h
def xL (X : List Sp2) : List (Sp2 × Value) := X.zipIdx.map fun p => (p.1, Value.int .i64 (p.2 : Int))
theorem xL_snoc (X : List Sp2) (y : Sp2) : xL (X ++ [y]) = xL X ++ [(y, .int .i64 (X.length : Int))] := by
  unfold xL
  rw [List.zipIdx_append]
  simp
theorem xL_none {X : List Sp2} {y : Sp2} (h : y ∉ X) : lkp y (xL X) = none := by
  rw [lkp_none]
  intro p hp
  obtain ⟨q, hq, rfl⟩ := List.mem_map.1 hp
  have := (List.mem_zipIdx hq).2.2
  intro e
  exact h (by rw [← e, this]; simp)
theorem xL_some {X : List Sp2} {y : Sp2} (h : y ∈ X) : ∃ n : Nat, X[n]? = some y ∧ lkp y (xL X) = some (.int .i64 (n : Int)) := by
  cases hv : lkp y (xL X) with
  | none =>
    rw [lkp_none] at hv
    obtain ⟨i, hi, e⟩ := List.mem_iff_getElem.1 h
    exact absurd e (hv (X[i], .int .i64 (i : Int)) (List.mem_map.2 ⟨(X[i], i), by rw [List.mem_zipIdx_iff_getElem?]; simp, rfl⟩))
  | some v =>
    obtain ⟨q, hq, e⟩ := List.mem_map.1 (lkp_some hv)
    rw [List.mem_zipIdx_iff_getElem?] at hq
    simp only [Prod.mk.injEq] at e
    obtain ⟨rfl, rfl⟩ := e
    exact ⟨q.2, hq, rfl⟩
end Go.Proofs.YtciihiiacbnimaaGreatDoor
