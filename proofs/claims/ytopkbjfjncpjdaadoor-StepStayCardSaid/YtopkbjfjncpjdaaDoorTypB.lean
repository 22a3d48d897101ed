/- TypB: what is needed of it. No condition. -/
import Derived.Test.YtopkbjfjncpjdaaDoorTyp
import Derived.Test.YtopkbjfjncpjdaaDoorGenD
namespace Go.Proofs.YtopkbjfjncpjdaaDoor
theorem getD_left {α : Type} (a b : List α) (d : α) (n : Nat) (h : n < a.length) : (a ++ b).getD n d = a.getD n d := by
  simp [List.getD_eq_getElem?_getD, List.getElem?_append_left h]
theorem getD_right {α : Type} (a b : List α) (d : α) (n : Nat) (h : a.length ≤ n) : (a ++ b).getD n d = b.getD (n - a.length) d := by
  simp [List.getD_eq_getElem?_getD, List.getElem?_append_right h]
def Lies (l : List Op2) (es : List Int) (t : Tm) (p : Nat) : Prop :=
  ∀ j, j < t.size → opAt l (p + j) = t.flat.getD j (0, 0) ∧ endAt es (p + j) = (t.ends p).getD j 0
theorem Lies.one {l : List Op2} {es : List Int} {k v : Int} {a : Tm} {p : Nat} (h : Lies l es (.n1 k v a) p) : Lies l es a (p + 1) := by
  intro j hj
  have := h (j + 1) (by simp [Tm.size]; omega)
  rw [show p + 1 + j = p + (j + 1) by omega]
  simpa [Tm.flat, Tm.ends] using this
theorem Lies.two {l : List Op2} {es : List Int} {k v : Int} {a b : Tm} {p : Nat} (h : Lies l es (.n2 k v a b) p) : Lies l es a (p + 1) ∧ Lies l es b (p + 1 + a.size) := by
  constructor
  · intro j hj
    have := h (j + 1) (by simp [Tm.size]; omega)
    rw [show p + 1 + j = p + (j + 1) by omega]
    simp only [Tm.flat, Tm.ends, List.getD_cons_succ] at this
    rw [getD_left _ _ _ _ (by rw [Tm.flat_len]; exact hj), getD_left _ _ _ _ (by rw [Tm.ends_len]; exact hj)] at this
    exact this
  · intro j hj
    have := h (a.size + j + 1) (by simp [Tm.size]; omega)
    rw [show p + 1 + a.size + j = p + (a.size + j + 1) by omega]
    simp only [Tm.flat, Tm.ends, List.getD_cons_succ] at this
    rw [getD_right _ _ _ _ (by rw [Tm.flat_len]; omega), getD_right _ _ _ _ (by rw [Tm.ends_len]; omega), Tm.flat_len, Tm.ends_len, Nat.add_sub_cancel_left] at this
    exact this
theorem Lies.head {l : List Op2} {es : List Int} {t : Tm} {p : Nat} (h : Lies l es t p) : (opAt l p).1 = t.kind ∧ endAt es p = ((p + t.size : Nat) : Int) := by
  have := h 0 t.size_pos
  obtain ⟨v, r, hr⟩ := flat_head t
  have hz := ends_zero t p (by rw [Tm.ends_len]; exact t.size_pos)
  refine ⟨by rw [show p = p + 0 from rfl, this.1, hr]; rfl, ?_⟩
  rw [show endAt es p = endAt es (p + 0) from rfl, this.2, ← hz, List.getD_eq_getElem?_getD, List.getElem?_eq_getElem (by rw [Tm.ends_len]; exact t.size_pos)]
  rfl
theorem chain_end (l : List Op2) (es : List Int) (tk : Bool) (lim : Int) (f k : Nat) (h : lim ≤ k) : chainL l es tk lim f k = true := by
  cases f with
  | zero => rfl
  | succ f => rw [chainL, if_neg (by omega)]
theorem chain_step {l : List Op2} {es : List Int} {a : Tm} {k : Nat} (h : Lies l es a k) (tk : Bool) (lim : Int) (f : Nat) (hl : (k : Int) < lim) :
    chainL l es tk lim (f + 1) k = ((mkK a.kind == tk) && chainL l es tk lim f (k + a.size)) := by
  rw [chainL, if_pos hl, h.head.1, h.head.2]
  rfl
theorem all_split {P : Nat → Prop} (p m : Nat) : (∀ j, j < m + 1 → P (p + j)) ↔ (P p ∧ ∀ j, j < m → P (p + 1 + j)) := by
  constructor
  · intro h
    exact ⟨h 0 (by omega), fun j hj => by have := h (j + 1) (by omega); rwa [show p + (j + 1) = p + 1 + j by omega] at this⟩
  · intro ⟨h0, h⟩ j hj
    cases j with
    | zero => exact h0
    | succ j => have := h j (by omega); rwa [show p + 1 + j = p + (j + 1) by omega] at this
theorem all_cut {P : Nat → Prop} (p m n : Nat) : (∀ j, j < m + n → P (p + j)) ↔ ((∀ j, j < m → P (p + j)) ∧ ∀ j, j < n → P (p + m + j)) := by
  constructor
  · intro h
    exact ⟨fun j hj => h j (by omega), fun j hj => by have := h (m + j) (by omega); rwa [show p + (m + j) = p + m + j by omega] at this⟩
  · intro ⟨h0, h⟩ j hj
    by_cases hm : j < m
    · exact h0 j hm
    · have := h (j - m) (by omega)
      rwa [show p + m + (j - m) = p + j by omega] at this
theorem typed_iff (l : List Op2) (es : List Int) (t : Tm) : ∀ p, Lies l es t p → p + t.size ≤ l.length → ((∀ j, j < t.size → partsB l es (p + j) = true) ↔ t.typed = true) := by
  induction t with
  | n0 k v =>
    intro p h hl
    have e : partsB l es p = true := by
      unfold partsB
      rw [h.head.2]
      exact chain_end _ _ _ _ _ _ (by simp [Tm.size])
    simp only [Tm.size, Tm.typed]
    constructor
    · intro _; trivial
    · intro _ j hj
      obtain rfl : j = 0 := by omega
      exact e
  | n1 k v a ih =>
    intro p h hl
    have ha := h.one
    have hp := a.size_pos
    have e : partsB l es p = (mkK a.kind == tkK k) := by
      unfold partsB
      rw [h.head.2, h.head.1, chain_step ha _ _ _ (by simp [Tm.size]; omega), chain_end _ _ _ _ _ _ (by simp [Tm.size]; omega), Bool.and_true]
      rfl
    simp only [Tm.size] at hl
    have := ih (p + 1) ha (by omega)
    simp only [Tm.size, Tm.typed]
    rw [all_split (P := fun j => partsB l es j = true), this, e]
    simp
  | n2 k v a b ih1 ih2 =>
    intro p h hl
    obtain ⟨ha, hb⟩ := h.two
    have hp := a.size_pos
    have hp2 := b.size_pos
    simp only [Tm.size] at hl
    have e : partsB l es p = ((mkK a.kind == tkK k) && (mkK b.kind == tkK k)) := by
      unfold partsB
      rw [h.head.2, h.head.1, chain_step ha _ _ _ (by simp [Tm.size]; omega), show l.length = (l.length - 1) + 1 by omega, chain_step hb _ _ _ (by simp [Tm.size]; omega), chain_end _ _ _ _ _ _ (by simp [Tm.size]; omega), Bool.and_true]
      rfl
    have h1 := ih1 (p + 1) ha (by omega)
    have h2 := ih2 (p + 1 + a.size) hb (by omega)
    simp only [Tm.size, Tm.typed]
    rw [all_split (P := fun j => partsB l es j = true), all_cut (P := fun j => partsB l es j = true), h1, h2, e]
    simp [Bool.and_eq_true, and_assoc]
theorem Lies.self (t : Tm) : Lies t.flat (t.ends 0) t 0 := by
  intro j hj
  simp [opAt, endAt]
def Tm.good (t : Tm) (vars : Int) : Prop := ∀ o ∈ t.flat, opE o vars = 0
theorem check_tree (t : Tm) (vars : Int) (h1 : 0 ≤ vars) (h2 : vars ≤ 6) (hok : t.ok) (hs : t.size ≤ 60) (hg : t.good vars) : checkL t.flat vars = if t.typed then .ok (mkK t.kind) else .error 5 := by
  unfold checkL
  rw [if_neg (by omega), ends_term t hok hs]
  show checkE t.flat (t.ends 0) vars = _
  have : t.flat.find? (fun o => opE o vars != 0) = none := by
    rw [List.find?_eq_none]
    intro o ho
    simpa using hg o ho
  unfold checkE
  rw [this]
  have hh := typed_iff t.flat (t.ends 0) t 0 (Lies.self t) (by rw [Tm.flat_len]; omega)
  have hall : (List.range t.flat.length).all (partsB t.flat (t.ends 0)) = t.typed := by
    rw [Bool.eq_iff_iff, ← hh, List.all_eq_true, Tm.flat_len]
    simp
  simp only [hall, (Lies.self t).head.1]
theorem num_kinds (k : Int) (h1 : 1 ≤ k) (h2 : k ≤ 5) : mkK k = false ∧ tkK k = false := by simp [mkK, tkK]; omega
theorem cmp_kinds (k : Int) (h1 : 6 ≤ k) (h2 : k ≤ 7) : mkK k = true ∧ tkK k = false := by simp [mkK, tkK]; omega
theorem log_kinds (k : Int) (h1 : 8 ≤ k) (h2 : k ≤ 12) : mkK k = true ∧ tkK k = true := by simp [mkK, tkK]; omega
theorem numLeaf_typed (r : Op2) (vars k : Int) (h : vars ≤ 1000) : (numLeaf r vars k).typed = true ∧ mkK (numLeaf r vars k).kind = false ∧ (numLeaf r vars k).good vars := by
  unfold numLeaf
  split
  · rename_i hk
    refine ⟨rfl, rfl, ?_⟩
    intro o ho
    simp only [Tm.flat, List.mem_singleton] at ho
    subst ho
    have := pk_bd r.2 vars (by omega)
    simp [opE, okK]
    omega
  · refine ⟨rfl, rfl, ?_⟩
    intro o ho
    simp only [Tm.flat, List.mem_singleton] at ho
    subst ho
    have := pk_bd r.2 9 (by omega)
    simp [opE, okK]
    omega
theorem good_n2 {k : Int} {a b : Tm} {vars : Int} (hk : 3 ≤ k) (hk2 : k ≤ 12) (ha : a.good vars) (hb : b.good vars) : (Tm.n2 k 0 a b).good vars := by
  intro o ho
  simp only [Tm.flat, List.mem_cons, List.mem_append] at ho
  rcases ho with rfl | ho | ho
  · simp [opE, okK]; omega
  · exact ha o ho
  · exact hb o ho
theorem good_n1 {k : Int} {a : Tm} {vars : Int} (hk : 3 ≤ k) (hk2 : k ≤ 12) (ha : a.good vars) : (Tm.n1 k 0 a).good vars := by
  intro o ho
  simp only [Tm.flat, List.mem_cons] at ho
  rcases ho with rfl | ho
  · simp [opE, okK]; omega
  · exact ha o ho
theorem good_n0 {k : Int} {vars : Int} (hk : 3 ≤ k) (hk2 : k ≤ 12) : (Tm.n0 k 0).good vars := by
  intro o ho
  simp only [Tm.flat, List.mem_singleton] at ho
  subst ho
  simp [opE, okK]; omega
theorem numT_typed (raw : List Op2) (vars : Int) (h : vars ≤ 1000) : ∀ d p, (numT raw vars d p).1.typed = true ∧ mkK (numT raw vars d p).1.kind = false ∧ (numT raw vars d p).1.good vars := by
  intro d
  induction d with
  | zero => intro p; unfold numT; exact numLeaf_typed _ _ _ h
  | succ d ih =>
    intro p
    unfold numT
    split
    · exact numLeaf_typed _ _ _ h
    · have hk := numKind_bd (rawAt raw p) p
      obtain ⟨m1, m2⟩ := num_kinds (numKind (rawAt raw p) p + 1) (by omega) (by omega)
      obtain ⟨a1, a2, a3⟩ := ih (p + 1)
      obtain ⟨b1, b2, b3⟩ := ih (numT raw vars d (p + 1)).2
      exact ⟨by simp only [Tm.typed, a1, a2, b1, b2, m2]; rfl, m1, good_n2 (by omega) (by omega) a3 b3⟩
theorem cmpT_typed (raw : List Op2) (vars k : Int) (p : Nat) (h : vars ≤ 1000) : (cmpT raw vars k p).1.typed = true ∧ mkK (cmpT raw vars k p).1.kind = true ∧ (cmpT raw vars k p).1.good vars := by
  obtain ⟨m1, m2⟩ := cmp_kinds (6 + k % 2) (by omega) (by omega)
  obtain ⟨a1, a2, a3⟩ := numT_typed raw vars h 1 (p + 1)
  obtain ⟨b1, b2, b3⟩ := numT_typed raw vars h 1 (numT raw vars 1 (p + 1)).2
  exact ⟨by simp only [cmpT, Tm.typed, a1, a2, b1, b2, m2]; rfl, m1, good_n2 (by omega) (by omega) a3 b3⟩
theorem truT_typed (raw : List Op2) (vars : Int) (h : vars ≤ 1000) : ∀ d p, (truT raw vars d p).1.typed = true ∧ mkK (truT raw vars d p).1.kind = true ∧ (truT raw vars d p).1.good vars := by
  have leaf : ∀ p, (Tm.n0 (11 + pk (rawAt raw p).2 2) 0).typed = true ∧ mkK (Tm.n0 (11 + pk (rawAt raw p).2 2) 0).kind = true ∧ (Tm.n0 (11 + pk (rawAt raw p).2 2) 0).good vars := by
    intro p
    have := pk_bd (rawAt raw p).2 2 (by omega)
    exact ⟨rfl, (log_kinds (11 + pk (rawAt raw p).2 2) (by omega) (by omega)).1, good_n0 (by omega) (by omega)⟩
  intro d
  induction d with
  | zero => intro p; unfold truT; split; (· exact leaf p); · exact cmpT_typed _ _ _ _ h
  | succ d ih =>
    intro p
    unfold truT
    split
    · exact leaf p
    · split
      · exact cmpT_typed _ _ _ _ h
      · obtain ⟨a1, a2, a3⟩ := ih (p + 1)
        obtain ⟨b1, b2, b3⟩ := ih (truT raw vars d (p + 1)).2
        split
        · obtain ⟨m1, m2⟩ := log_kinds 10 (by omega) (by omega)
          exact ⟨by simp only [Tm.typed, a1, a2, m2]; rfl, m1, good_n1 (by omega) (by omega) a3⟩
        · obtain ⟨m1, m2⟩ := log_kinds (8 + truKind (rawAt raw p) (d + 1) p % 2) (by omega) (by omega)
          exact ⟨by simp only [Tm.typed, a1, a2, b1, b2, m2]; rfl, m1, good_n2 (by omega) (by omega) a3 b3⟩
end Go.Proofs.YtopkbjfjncpjdaaDoor
