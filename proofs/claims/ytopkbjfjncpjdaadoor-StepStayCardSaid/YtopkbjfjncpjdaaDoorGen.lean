/- Gen: what is needed of it. No condition. -/
import Derived.Test.YtopkbjfjncpjdaaDoorTerm
import Derived.Test.YtopkbjfjncpjdaaDoorPick
namespace Go.Proofs.YtopkbjfjncpjdaaDoor
def rawAt (raw : List Op2) (p : Nat) : Op2 := raw.getD p (0, 0)
def numLeaf (r : Op2) (vars k : Int) : Tm := if k = 1 ∧ 0 < vars then .n0 2 (pk r.2 vars) else .n0 1 (pk r.2 9 - 4)
def numKind (r : Op2) (p : Nat) : Int := if 14 < p + 1 then pk r.1 2 else pk r.1 5
def numT (raw : List Op2) (vars : Int) : Nat → Nat → Tm × Nat
  | 0, p => (numLeaf (rawAt raw p) vars (pk (rawAt raw p).1 2), p + 1)
  | d + 1, p =>
    if numKind (rawAt raw p) p < 2 then (numLeaf (rawAt raw p) vars (numKind (rawAt raw p) p), p + 1)
    else (.n2 (numKind (rawAt raw p) p + 1) 0 (numT raw vars d (p + 1)).1 (numT raw vars d (numT raw vars d (p + 1)).2).1, (numT raw vars d (numT raw vars d (p + 1)).2).2)
def truKind (r : Op2) (d p : Nat) : Int := if d = 0 ∨ 10 < p + 1 then pk r.1 3 else pk r.1 9
def cmpT (raw : List Op2) (vars k : Int) (p : Nat) : Tm × Nat :=
  (.n2 (6 + k % 2) 0 (numT raw vars 1 (p + 1)).1 (numT raw vars 1 (numT raw vars 1 (p + 1)).2).1, (numT raw vars 1 (numT raw vars 1 (p + 1)).2).2)
def truT (raw : List Op2) (vars : Int) : Nat → Nat → Tm × Nat
  | 0, p =>
    if truKind (rawAt raw p) 0 p = 0 then (.n0 (11 + pk (rawAt raw p).2 2) 0, p + 1)
    else cmpT raw vars (truKind (rawAt raw p) 0 p) p
  | d + 1, p =>
    if truKind (rawAt raw p) (d + 1) p = 0 then (.n0 (11 + pk (rawAt raw p).2 2) 0, p + 1)
    else if truKind (rawAt raw p) (d + 1) p < 5 then cmpT raw vars (truKind (rawAt raw p) (d + 1) p) p
    else if truKind (rawAt raw p) (d + 1) p = 5 then (.n1 10 0 (truT raw vars d (p + 1)).1, (truT raw vars d (p + 1)).2)
    else (.n2 (8 + truKind (rawAt raw p) (d + 1) p % 2) 0 (truT raw vars d (p + 1)).1 (truT raw vars d (truT raw vars d (p + 1)).2).1, (truT raw vars d (truT raw vars d (p + 1)).2).2)
theorem numKind_bd (r : Op2) (p : Nat) : 0 ≤ numKind r p ∧ numKind r p < 5 := by
  unfold numKind
  have h1 := pk_bd r.1 2 (by omega)
  have h2 := pk_bd r.1 5 (by omega)
  split <;> omega
theorem numLeaf_size (r : Op2) (vars k : Int) : (numLeaf r vars k).size = 1 := by unfold numLeaf; split <;> rfl
theorem numT_size (raw : List Op2) (vars : Int) : ∀ d p, (numT raw vars d p).2 = p + (numT raw vars d p).1.size := by
  intro d
  induction d with
  | zero => intro p; simp [numT, numLeaf_size]
  | succ d ih =>
    intro p
    unfold numT
    split
    · simp [numLeaf_size]
    · have h1 := ih (p + 1)
      have h2 := ih (numT raw vars d (p + 1)).2
      simp only [Tm.size]
      omega
theorem numT_one (raw : List Op2) (vars : Int) (p : Nat) : ((numT raw vars 1 p).1.size = 1 ∨ (numT raw vars 1 p).1.size = 3) ∧ (14 ≤ p → (numT raw vars 1 p).1.size = 1) := by
  unfold numT
  split
  · simp [numLeaf_size]
  · refine ⟨.inr ?_, fun h => ?_⟩
    · simp [Tm.size, numT, numLeaf_size]
    · rename_i h2
      exfalso
      apply h2
      unfold numKind
      rw [if_pos (by omega)]
      exact (pk_bd _ 2 (by omega)).2
theorem numT_two (raw : List Op2) (vars : Int) (p : Nat) : (numT raw vars 2 p).1.size ≤ 7 := by
  rw [numT]
  split
  · simp [numLeaf_size]
  · have h1 := (numT_one raw vars (p + 1)).1
    have h2 := (numT_one raw vars (numT raw vars 1 (p + 1)).2).1
    simp only [Tm.size]
    omega
theorem numLeaf_ok (r : Op2) (vars k : Int) : (numLeaf r vars k).ok := by
  unfold numLeaf
  split <;> simp [Tm.ok, partsOf]
theorem numT_ok (raw : List Op2) (vars : Int) : ∀ d p, (numT raw vars d p).1.ok := by
  intro d
  induction d with
  | zero => intro p; exact numLeaf_ok _ _ _
  | succ d ih =>
    intro p
    unfold numT
    split
    · exact numLeaf_ok _ _ _
    · rename_i h
      have hb := numKind_bd (rawAt raw p) p
      refine ⟨by omega, by omega, ?_, ih _, ih _⟩
      unfold partsOf
      rw [if_pos (by omega)]
theorem truKind_bd (r : Op2) (d p : Nat) : 0 ≤ truKind r d p ∧ truKind r d p < 9 ∧ (d = 0 ∨ 10 ≤ p → truKind r d p < 3) := by
  unfold truKind
  have h1 := pk_bd r.1 3 (by omega)
  have h2 := pk_bd r.1 9 (by omega)
  split <;> omega
theorem cmpT_size (raw : List Op2) (vars k : Int) (p : Nat) : (cmpT raw vars k p).2 = p + (cmpT raw vars k p).1.size := by
  have h1 := numT_size raw vars 1 (p + 1)
  have h2 := numT_size raw vars 1 (numT raw vars 1 (p + 1)).2
  simp only [cmpT, Tm.size]
  omega
theorem truT_size (raw : List Op2) (vars : Int) : ∀ d p, (truT raw vars d p).2 = p + (truT raw vars d p).1.size := by
  intro d
  induction d with
  | zero => intro p; unfold truT; split; (· simp [Tm.size]); · exact cmpT_size _ _ _ _
  | succ d ih =>
    intro p
    unfold truT
    split
    · simp [Tm.size]
    · split
      · exact cmpT_size _ _ _ _
      · have h1 := ih (p + 1)
        have h2 := ih (truT raw vars d (p + 1)).2
        split <;> simp only [Tm.size] <;> omega
theorem cmpT_ok (raw : List Op2) (vars k : Int) (p : Nat) : (cmpT raw vars k p).1.ok := by
  refine ⟨by omega, by omega, ?_, numT_ok _ _ _ _, numT_ok _ _ _ _⟩
  unfold partsOf
  rw [if_pos (by omega)]
theorem truT_ok (raw : List Op2) (vars : Int) : ∀ d p, (truT raw vars d p).1.ok := by
  have leaf : ∀ p, (Tm.n0 (11 + pk (rawAt raw p).2 2) 0).ok := by
    intro p
    have := pk_bd (rawAt raw p).2 2 (by omega)
    refine ⟨by omega, by omega, ?_⟩
    unfold partsOf
    rw [if_neg (by omega), if_neg (by omega)]
  intro d
  induction d with
  | zero => intro p; unfold truT; split; (· exact leaf p); · exact cmpT_ok _ _ _ _
  | succ d ih =>
    intro p
    unfold truT
    split
    · exact leaf p
    · split
      · exact cmpT_ok _ _ _ _
      · split
        · exact ⟨by omega, by omega, by unfold partsOf; simp, ih _⟩
        · refine ⟨by omega, by omega, ?_, ih _, ih _⟩
          unfold partsOf
          rw [if_pos (by omega)]
theorem cmpT_end (raw : List Op2) (vars k : Int) (p : Nat) : (cmpT raw vars k p).2 ≤ p + 7 ∧ (10 ≤ p → (cmpT raw vars k p).2 ≤ p + 5) ∧ (13 ≤ p → (cmpT raw vars k p).2 ≤ p + 3) := by
  have h1 := numT_size raw vars 1 (p + 1)
  have h2 := numT_size raw vars 1 (numT raw vars 1 (p + 1)).2
  obtain ⟨h3, h4⟩ := numT_one raw vars (p + 1)
  obtain ⟨h5, h6⟩ := numT_one raw vars (numT raw vars 1 (p + 1)).2
  simp only [cmpT]
  omega
theorem truT_end (raw : List Op2) (vars : Int) : ∀ d p, (10 ≤ p → (truT raw vars d p).2 ≤ 17 ∨ (truT raw vars d p).2 ≤ p + 3) ∧ (p < 10 → (truT raw vars d p).2 ≤ 17 + 3 * d) := by
  intro d
  induction d with
  | zero =>
    intro p
    unfold truT
    have := cmpT_end raw vars (truKind (rawAt raw p) 0 p) p
    split
    · simp only; omega
    · omega
  | succ d ih =>
    intro p
    have hk := truKind_bd (rawAt raw p) (d + 1) p
    have hc := cmpT_end raw vars (truKind (rawAt raw p) (d + 1) p) p
    have h1 := ih (p + 1)
    have h2 := ih (truT raw vars d (p + 1)).2
    unfold truT
    split
    · simp only; omega
    · split
      · omega
      · split
        · simp only; omega
        · simp only; omega
theorem truT_small (raw : List Op2) (vars : Int) : (truT raw vars 3 0).1.size ≤ 26 := by
  have h1 := (truT_end raw vars 3 0).2 (by omega)
  have h2 := truT_size raw vars 3 0
  omega
end Go.Proofs.YtopkbjfjncpjdaaDoor
