/- FormP: what is needed of it. No condition. -/
import Derived.Test.YthkiegaifkkegaaDoorGen
namespace Go.Proofs.YthkiegaifkkegaaDoor
def aheadB (k : Int) : Bool := decide (14 ≤ k ∧ k ≤ 18)
def cntA : List Op2 → Nat
  | [] => 0
  | o :: l => (if aheadB o.1 then 1 else 0) + cntA l
theorem cntA_app (a b : List Op2) : cntA (a ++ b) = cntA a + cntA b := by
  induction a with
  | nil => simp [cntA]
  | cons o a ih => simp only [List.cons_append, cntA, ih]; omega
def fLeaf (r : Op2) (props : Int) : Tm := if 0 < props then .n0 13 (pk r.2 props) else .n0 (11 + pk r.2 2) 0
def fKind0 (r : Op2) (d p : Nat) : Int := if d = 0 ∨ 12 < p + 1 then pk r.1 4 else pk r.1 16
def fKind (r : Op2) (d p t : Nat) : Int := if 8 < fKind0 r d p ∧ t = 0 then 4 + fKind0 r d p % 5 else fKind0 r d p
def aheadK (k : Int) : Int := if k = 9 then 14 else if k = 11 then 18 else 17
def fT (raw : List Op2) (props : Int) : Nat → Nat → Nat → Tm × Nat × Nat
  | 0, p, t => (fLeaf (rawAt raw p) props, p + 1, t)
  | d + 1, p, t =>
    if fKind (rawAt raw p) (d + 1) p t < 4 then (fLeaf (rawAt raw p) props, p + 1, t)
    else if fKind (rawAt raw p) (d + 1) p t < 6 then (.n1 10 0 (fT raw props d (p + 1) t).1, (fT raw props d (p + 1) t).2)
    else if fKind (rawAt raw p) (d + 1) p t < 9 then
      (.n2 (8 + fKind (rawAt raw p) (d + 1) p t % 2) 0 (fT raw props d (p + 1) t).1 (fT raw props d (fT raw props d (p + 1) t).2.1 (fT raw props d (p + 1) t).2.2).1, (fT raw props d (fT raw props d (p + 1) t).2.1 (fT raw props d (p + 1) t).2.2).2)
    else if fKind (rawAt raw p) (d + 1) p t < 13 then (.n1 (aheadK (fKind (rawAt raw p) (d + 1) p t)) 0 (fT raw props d (p + 1) (t - 1)).1, (fT raw props d (p + 1) (t - 1)).2)
    else
      (.n2 (15 + fKind (rawAt raw p) (d + 1) p t % 2) 0 (fT raw props d (p + 1) (t - 1)).1 (fT raw props d (fT raw props d (p + 1) (t - 1)).2.1 (fT raw props d (p + 1) (t - 1)).2.2).1, (fT raw props d (fT raw props d (p + 1) (t - 1)).2.1 (fT raw props d (p + 1) (t - 1)).2.2).2)
theorem fKind0_bd (r : Op2) (d p : Nat) : 0 ≤ fKind0 r d p ∧ fKind0 r d p < 16 ∧ (d = 0 ∨ 12 ≤ p → fKind0 r d p < 4) := by
  unfold fKind0
  have h1 := pk_bd r.1 4 (by omega)
  have h2 := pk_bd r.1 16 (by omega)
  split <;> omega
theorem fKind_bd (r : Op2) (d p t : Nat) : 0 ≤ fKind r d p t ∧ fKind r d p t < 16 ∧ (d = 0 ∨ 12 ≤ p → fKind r d p t < 4) ∧ (t = 0 → fKind r d p t < 9) := by
  have h := fKind0_bd r d p
  unfold fKind
  split <;> omega
theorem fLeaf_size (r : Op2) (props : Int) : (fLeaf r props).size = 1 := by unfold fLeaf; split <;> rfl
theorem fT_size (raw : List Op2) (props : Int) : ∀ d p t, (fT raw props d p t).2.1 = p + (fT raw props d p t).1.size := by
  intro d
  induction d with
  | zero => intro p t; simp [fT, fLeaf_size]
  | succ d ih =>
    intro p t
    unfold fT
    have h1 := ih (p + 1) t
    have h2 := ih (fT raw props d (p + 1) t).2.1 (fT raw props d (p + 1) t).2.2
    have h3 := ih (p + 1) (t - 1)
    have h4 := ih (fT raw props d (p + 1) (t - 1)).2.1 (fT raw props d (p + 1) (t - 1)).2.2
    split
    · simp [fLeaf_size]
    · split
      · simp only [Tm.size]; omega
      · split
        · simp only [Tm.size]; omega
        · split <;> simp only [Tm.size] <;> omega
theorem fT_end (raw : List Op2) (props : Int) : ∀ d p t, (12 ≤ p → (fT raw props d p t).2.1 = p + 1) ∧ (p < 12 → (fT raw props d p t).2.1 ≤ 13 + d) := by
  intro d
  induction d with
  | zero => intro p t; exact ⟨fun _ => rfl, fun h => by show p + 1 ≤ 13 + 0; omega⟩
  | succ d ih =>
    intro p t
    have hk := fKind_bd (rawAt raw p) (d + 1) p t
    have h1 := ih (p + 1) t
    have h2 := ih (fT raw props d (p + 1) t).2.1 (fT raw props d (p + 1) t).2.2
    have h3 := ih (p + 1) (t - 1)
    have h4 := ih (fT raw props d (p + 1) (t - 1)).2.1 (fT raw props d (p + 1) (t - 1)).2.2
    by_cases hp : 12 ≤ p
    · unfold fT
      rw [if_pos (by omega)]
      exact ⟨fun _ => rfl, fun h => by omega⟩
    · refine ⟨fun h => by omega, fun _ => ?_⟩
      unfold fT
      split
      · show p + 1 ≤ _; omega
      · split
        · show (fT raw props d (p + 1) t).2.1 ≤ _; omega
        · split
          · show (fT raw props d (fT raw props d (p + 1) t).2.1 (fT raw props d (p + 1) t).2.2).2.1 ≤ _; omega
          · split
            · show (fT raw props d (p + 1) (t - 1)).2.1 ≤ _; omega
            · show (fT raw props d (fT raw props d (p + 1) (t - 1)).2.1 (fT raw props d (p + 1) (t - 1)).2.2).2.1 ≤ _; omega
theorem fT_small (raw : List Op2) (props : Int) (d t : Nat) : (fT raw props d 0 t).1.size ≤ 13 + d := by
  have h1 := (fT_end raw props d 0 t).2 (by omega)
  have h2 := fT_size raw props d 0 t
  omega
theorem fLeaf_ok (r : Op2) (props : Int) : (fLeaf r props).ok := by
  unfold fLeaf
  have := pk_bd r.2 2 (by omega)
  split
  · simp [Tm.ok, partsOf]
  · refine ⟨by omega, by omega, ?_⟩
    unfold partsOf
    rw [if_neg (by omega), if_neg (by omega)]
theorem fT_ok (raw : List Op2) (props : Int) : ∀ d p t, (fT raw props d p t).1.ok := by
  intro d
  induction d with
  | zero => intro p t; exact fLeaf_ok _ _
  | succ d ih =>
    intro p t
    have hk := fKind_bd (rawAt raw p) (d + 1) p t
    unfold fT
    split
    · exact fLeaf_ok _ _
    · split
      · exact ⟨by omega, by omega, by unfold partsOf; simp, ih _ _⟩
      · split
        · refine ⟨by omega, by omega, ?_, ih _ _, ih _ _⟩
          unfold partsOf
          rw [if_pos (by omega)]
        · split
          · have ha : aheadK (fKind (rawAt raw p) (d + 1) p t) = 14 ∨ aheadK (fKind (rawAt raw p) (d + 1) p t) = 17 ∨ aheadK (fKind (rawAt raw p) (d + 1) p t) = 18 := by
              unfold aheadK; split
              · omega
              · split <;> omega
            refine ⟨by omega, by omega, ?_, ih _ _⟩
            unfold partsOf
            rw [if_neg (by omega), if_pos (by omega)]
          · refine ⟨by omega, by omega, ?_, ih _ _, ih _ _⟩
            unfold partsOf
            rw [if_pos (by omega)]
def FitOp (props : Int) (o : Op2) : Prop := 8 ≤ o.1 ∧ o.1 ≤ 18 ∧ (o.1 = 13 → 0 ≤ o.2 ∧ o.2 < props) ∧ (o.1 ≠ 13 → o.2 = 0)
theorem fLeaf_fit (r : Op2) (props : Int) : ∀ o ∈ (fLeaf r props).flat, FitOp props o ∧ aheadB o.1 = false := by
  unfold fLeaf
  have := pk_bd r.2 2 (by omega)
  split
  · rename_i h
    have := pk_bd r.2 props h
    intro o ho
    simp only [Tm.flat, List.mem_singleton] at ho
    subst ho
    refine ⟨⟨by simp, by simp, fun _ => this, fun h => absurd rfl h⟩, by simp [aheadB]⟩
  · intro o ho
    simp only [Tm.flat, List.mem_singleton] at ho
    subst ho
    refine ⟨⟨by simp only; omega, by simp only; omega, fun h => by simp only at h; omega, fun _ => rfl⟩, ?_⟩
    unfold aheadB
    simp only [decide_eq_false_iff_not]
    omega
theorem fT_fit (raw : List Op2) (props : Int) : ∀ d p t, ∀ o ∈ (fT raw props d p t).1.flat, FitOp props o := by
  intro d
  induction d with
  | zero => intro p t o ho; exact (fLeaf_fit _ _ o ho).1
  | succ d ih =>
    intro p t o ho
    have hk := fKind_bd (rawAt raw p) (d + 1) p t
    unfold fT at ho
    have hop : ∀ k : Int, 8 ≤ k → k ≤ 18 → k ≠ 13 → FitOp props (k, 0) := fun k h1 h2 h3 => ⟨h1, h2, fun h => absurd h h3, fun _ => rfl⟩
    split at ho
    · exact (fLeaf_fit _ _ o ho).1
    · split at ho
      · rcases List.mem_cons.1 ho with rfl | ho
        · exact hop 10 (by omega) (by omega) (by omega)
        · exact ih _ _ o ho
      · split at ho
        · rcases List.mem_cons.1 ho with rfl | ho
          · exact hop _ (by omega) (by omega) (by omega)
          · rcases List.mem_append.1 ho with ho | ho
            · exact ih _ _ o ho
            · exact ih _ _ o ho
        · split at ho
          · have ha : aheadK (fKind (rawAt raw p) (d + 1) p t) = 14 ∨ aheadK (fKind (rawAt raw p) (d + 1) p t) = 17 ∨ aheadK (fKind (rawAt raw p) (d + 1) p t) = 18 := by
              unfold aheadK; split
              · omega
              · split <;> omega
            rcases List.mem_cons.1 ho with rfl | ho
            · exact hop _ (by omega) (by omega) (by omega)
            · exact ih _ _ o ho
          · rcases List.mem_cons.1 ho with rfl | ho
            · exact hop _ (by omega) (by omega) (by omega)
            · rcases List.mem_append.1 ho with ho | ho
              · exact ih _ _ o ho
              · exact ih _ _ o ho
theorem cntA_zero : ∀ l : List Op2, (∀ o ∈ l, aheadB o.1 = false) → cntA l = 0
  | [], _ => rfl
  | o :: l, h => by
    have h1 := h o (by simp)
    have h2 := cntA_zero l fun x hx => h x (List.mem_cons_of_mem _ hx)
    simp [cntA, h1, h2]
theorem fT_cnt (raw : List Op2) (props : Int) : ∀ d p t, cntA (fT raw props d p t).1.flat + (fT raw props d p t).2.2 = t := by
  intro d
  induction d with
  | zero =>
    intro p t
    have := cntA_zero _ fun o ho => (fLeaf_fit (rawAt raw p) props o ho).2
    simp [fT, this]
  | succ d ih =>
    intro p t
    have hk := fKind_bd (rawAt raw p) (d + 1) p t
    have h1 := ih (p + 1) t
    have h2 := ih (fT raw props d (p + 1) t).2.1 (fT raw props d (p + 1) t).2.2
    have h3 := ih (p + 1) (t - 1)
    have h4 := ih (fT raw props d (p + 1) (t - 1)).2.1 (fT raw props d (p + 1) (t - 1)).2.2
    unfold fT
    split
    · have := cntA_zero _ fun o ho => (fLeaf_fit (rawAt raw p) props o ho).2
      simp [this]
    · split
      · simp only [Tm.flat, cntA, aheadB]
        simp
        exact h1
      · split
        · have hb : aheadB (8 + fKind (rawAt raw p) (d + 1) p t % 2) = false := by unfold aheadB; simp only [decide_eq_false_iff_not]; omega
          simp only [Tm.flat, cntA, cntA_app, hb]
          simp
          omega
        · have ht : t ≠ 0 := fun e => by have := hk.2.2.2 e; omega
          split
          · have hb : aheadB (aheadK (fKind (rawAt raw p) (d + 1) p t)) = true := by
              unfold aheadB aheadK; split
              · simp
              · split <;> simp
            simp only [Tm.flat, cntA, hb]
            simp
            omega
          · have hb : aheadB (15 + fKind (rawAt raw p) (d + 1) p t % 2) = true := by unfold aheadB; simp only [decide_eq_true_eq]; omega
            simp only [Tm.flat, cntA, cntA_app, hb]
            simp
            omega
end Go.Proofs.YthkiegaifkkegaaDoor
