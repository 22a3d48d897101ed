/- Several texts in one: FormP; TruP; Form; FormB; FormC; RawF; WordP; SettleP; RowP. No condition. -/
import Derived.Test.YtbmimdnpchldlaaDoorKd15
import Derived.Test.YtbmimdnpchldlaaDoorKd8
namespace Go.Proofs.YtbmimdnpchldlaaDoor

/-- Does a kind look ahead? -/
def aheadB (k : Int) : Bool := decide (14 ≤ k ∧ k ≤ 18)
def cntA : List Op2 → Nat
  | [] => 0
  | o :: l => (if aheadB o.1 then 1 else 0) + cntA l
theorem cntA_app (a b : List Op2) : cntA (a ++ b) = cntA a + cntA b := by
  induction a with
  | nil => simp [cntA]
  | cons o a ih => simp only [List.cons_append, cntA, ih]; omega

def fLeaf (r : Op2) (props : Int) : Tm := if 0 < props then .n0 13 (pk r.2 props) else .n0 (11 + pk r.2 2) 0
def fKind0 (r : Op2) (d p : Nat) : Int := if d = 0 ∨ 12 < p + 1 then pk r.1 4 else pk r.1 16
def fKind (r : Op2) (d p t : Nat) : Int := if 8 < fKind0 r d p ∧ t = 0 then 4 + fKind0 r d p % 5 else fKind0 r d p
def aheadK (k : Int) : Int := if k = 9 then 14 else if k = 11 then 18 else 17

def fT (raw : List Op2) (props : Int) : Nat → Nat → Nat → Tm × Nat × Nat
  | 0, p, t => (fLeaf (rawAt raw p) props, p + 1, t)
  | d + 1, p, t =>
    if fKind (rawAt raw p) (d + 1) p t < 4 then (fLeaf (rawAt raw p) props, p + 1, t)
    else if fKind (rawAt raw p) (d + 1) p t < 6 then (.n1 10 0 (fT raw props d (p + 1) t).1, (fT raw props d (p + 1) t).2)
    else if fKind (rawAt raw p) (d + 1) p t < 9 then
      (.n2 (8 + fKind (rawAt raw p) (d + 1) p t % 2) 0 (fT raw props d (p + 1) t).1 (fT raw props d (fT raw props d (p + 1) t).2.1 (fT raw props d (p + 1) t).2.2).1, (fT raw props d (fT raw props d (p + 1) t).2.1 (fT raw props d (p + 1) t).2.2).2)
    else if fKind (rawAt raw p) (d + 1) p t < 13 then (.n1 (aheadK (fKind (rawAt raw p) (d + 1) p t)) 0 (fT raw props d (p + 1) (t - 1)).1, (fT raw props d (p + 1) (t - 1)).2)
    else
      (.n2 (15 + fKind (rawAt raw p) (d + 1) p t % 2) 0 (fT raw props d (p + 1) (t - 1)).1 (fT raw props d (fT raw props d (p + 1) (t - 1)).2.1 (fT raw props d (p + 1) (t - 1)).2.2).1, (fT raw props d (fT raw props d (p + 1) (t - 1)).2.1 (fT raw props d (p + 1) (t - 1)).2.2).2)

theorem fKind0_bd (r : Op2) (d p : Nat) : 0 ≤ fKind0 r d p ∧ fKind0 r d p < 16 ∧ (d = 0 ∨ 12 ≤ p → fKind0 r d p < 4) := by
  unfold fKind0
  have h1 := pk_bd r.1 4 (by omega)
  have h2 := pk_bd r.1 16 (by omega)
  split <;> omega

theorem fKind_bd (r : Op2) (d p t : Nat) : 0 ≤ fKind r d p t ∧ fKind r d p t < 16 ∧ (d = 0 ∨ 12 ≤ p → fKind r d p t < 4) ∧ (t = 0 → fKind r d p t < 9) := by
  have h := fKind0_bd r d p
  unfold fKind
  split <;> omega

theorem fLeaf_size (r : Op2) (props : Int) : (fLeaf r props).size = 1 := by unfold fLeaf; split <;> rfl

theorem fT_size (raw : List Op2) (props : Int) : ∀ d p t, (fT raw props d p t).2.1 = p + (fT raw props d p t).1.size := by
  intro d
  induction d with
  | zero => intro p t; simp [fT, fLeaf_size]
  | succ d ih =>
    intro p t
    unfold fT
    have h1 := ih (p + 1) t
    have h2 := ih (fT raw props d (p + 1) t).2.1 (fT raw props d (p + 1) t).2.2
    have h3 := ih (p + 1) (t - 1)
    have h4 := ih (fT raw props d (p + 1) (t - 1)).2.1 (fT raw props d (p + 1) (t - 1)).2.2
    split
    · simp [fLeaf_size]
    · split
      · simp only [Tm.size]; omega
      · split
        · simp only [Tm.size]; omega
        · split <;> simp only [Tm.size] <;> omega

theorem fT_end (raw : List Op2) (props : Int) : ∀ d p t, (12 ≤ p → (fT raw props d p t).2.1 = p + 1) ∧ (p < 12 → (fT raw props d p t).2.1 ≤ 13 + d) := by
  intro d
  induction d with
  | zero => intro p t; exact ⟨fun _ => rfl, fun h => by show p + 1 ≤ 13 + 0; omega⟩
  | succ d ih =>
    intro p t
    have hk := fKind_bd (rawAt raw p) (d + 1) p t
    have h1 := ih (p + 1) t
    have h2 := ih (fT raw props d (p + 1) t).2.1 (fT raw props d (p + 1) t).2.2
    have h3 := ih (p + 1) (t - 1)
    have h4 := ih (fT raw props d (p + 1) (t - 1)).2.1 (fT raw props d (p + 1) (t - 1)).2.2
    by_cases hp : 12 ≤ p
    · unfold fT
      rw [if_pos (by omega)]
      exact ⟨fun _ => rfl, fun h => by omega⟩
    · refine ⟨fun h => by omega, fun _ => ?_⟩
      unfold fT
      split
      · show p + 1 ≤ _; omega
      · split
        · show (fT raw props d (p + 1) t).2.1 ≤ _; omega
        · split
          · show (fT raw props d (fT raw props d (p + 1) t).2.1 (fT raw props d (p + 1) t).2.2).2.1 ≤ _; omega
          · split
            · show (fT raw props d (p + 1) (t - 1)).2.1 ≤ _; omega
            · show (fT raw props d (fT raw props d (p + 1) (t - 1)).2.1 (fT raw props d (p + 1) (t - 1)).2.2).2.1 ≤ _; omega

theorem fT_small (raw : List Op2) (props : Int) (d t : Nat) : (fT raw props d 0 t).1.size ≤ 13 + d := by
  have h1 := (fT_end raw props d 0 t).2 (by omega)
  have h2 := fT_size raw props d 0 t
  omega

theorem fLeaf_ok (r : Op2) (props : Int) : (fLeaf r props).ok := by
  unfold fLeaf
  have := pk_bd r.2 2 (by omega)
  split
  · simp [Tm.ok, partsOf]
  · refine ⟨by omega, by omega, ?_⟩
    unfold partsOf
    rw [if_neg (by omega), if_neg (by omega)]

theorem fT_ok (raw : List Op2) (props : Int) : ∀ d p t, (fT raw props d p t).1.ok := by
  intro d
  induction d with
  | zero => intro p t; exact fLeaf_ok _ _
  | succ d ih =>
    intro p t
    have hk := fKind_bd (rawAt raw p) (d + 1) p t
    unfold fT
    split
    · exact fLeaf_ok _ _
    · split
      · exact ⟨by omega, by omega, by unfold partsOf; simp, ih _ _⟩
      · split
        · refine ⟨by omega, by omega, ?_, ih _ _, ih _ _⟩
          unfold partsOf
          rw [if_pos (by omega)]
        · split
          · have ha : aheadK (fKind (rawAt raw p) (d + 1) p t) = 14 ∨ aheadK (fKind (rawAt raw p) (d + 1) p t) = 17 ∨ aheadK (fKind (rawAt raw p) (d + 1) p t) = 18 := by
              unfold aheadK; split
              · omega
              · split <;> omega
            refine ⟨by omega, by omega, ?_, ih _ _⟩
            unfold partsOf
            rw [if_neg (by omega), if_pos (by omega)]
          · refine ⟨by omega, by omega, ?_, ih _ _, ih _ _⟩
            unfold partsOf
            rw [if_pos (by omega)]

/-- What logic.Check wants of an op. -/
def FitOp (props : Int) (o : Op2) : Prop := 8 ≤ o.1 ∧ o.1 ≤ 18 ∧ (o.1 = 13 → 0 ≤ o.2 ∧ o.2 < props) ∧ (o.1 ≠ 13 → o.2 = 0)

theorem fLeaf_fit (r : Op2) (props : Int) : ∀ o ∈ (fLeaf r props).flat, FitOp props o ∧ aheadB o.1 = false := by
  unfold fLeaf
  have := pk_bd r.2 2 (by omega)
  split
  · rename_i h
    have := pk_bd r.2 props h
    intro o ho
    simp only [Tm.flat, List.mem_singleton] at ho
    subst ho
    refine ⟨⟨by simp, by simp, fun _ => this, fun h => absurd rfl h⟩, by simp [aheadB]⟩
  · intro o ho
    simp only [Tm.flat, List.mem_singleton] at ho
    subst ho
    refine ⟨⟨by simp only; omega, by simp only; omega, fun h => by simp only at h; omega, fun _ => rfl⟩, ?_⟩
    unfold aheadB
    simp only [decide_eq_false_iff_not]
    omega

theorem fT_fit (raw : List Op2) (props : Int) : ∀ d p t, ∀ o ∈ (fT raw props d p t).1.flat, FitOp props o := by
  intro d
  induction d with
  | zero => intro p t o ho; exact (fLeaf_fit _ _ o ho).1
  | succ d ih =>
    intro p t o ho
    have hk := fKind_bd (rawAt raw p) (d + 1) p t
    unfold fT at ho
    have hop : ∀ k : Int, 8 ≤ k → k ≤ 18 → k ≠ 13 → FitOp props (k, 0) := fun k h1 h2 h3 => ⟨h1, h2, fun h => absurd h h3, fun _ => rfl⟩
    split at ho
    · exact (fLeaf_fit _ _ o ho).1
    · split at ho
      · rcases List.mem_cons.1 ho with rfl | ho
        · exact hop 10 (by omega) (by omega) (by omega)
        · exact ih _ _ o ho
      · split at ho
        · rcases List.mem_cons.1 ho with rfl | ho
          · exact hop _ (by omega) (by omega) (by omega)
          · rcases List.mem_append.1 ho with ho | ho
            · exact ih _ _ o ho
            · exact ih _ _ o ho
        · split at ho
          · have ha : aheadK (fKind (rawAt raw p) (d + 1) p t) = 14 ∨ aheadK (fKind (rawAt raw p) (d + 1) p t) = 17 ∨ aheadK (fKind (rawAt raw p) (d + 1) p t) = 18 := by
              unfold aheadK; split
              · omega
              · split <;> omega
            rcases List.mem_cons.1 ho with rfl | ho
            · exact hop _ (by omega) (by omega) (by omega)
            · exact ih _ _ o ho
          · rcases List.mem_cons.1 ho with rfl | ho
            · exact hop _ (by omega) (by omega) (by omega)
            · rcases List.mem_append.1 ho with ho | ho
              · exact ih _ _ o ho
              · exact ih _ _ o ho

theorem cntA_zero : ∀ l : List Op2, (∀ o ∈ l, aheadB o.1 = false) → cntA l = 0
  | [], _ => rfl
  | o :: l, h => by
    have h1 := h o (by simp)
    have h2 := cntA_zero l fun x hx => h x (List.mem_cons_of_mem _ hx)
    simp [cntA, h1, h2]

theorem fT_cnt (raw : List Op2) (props : Int) : ∀ d p t, cntA (fT raw props d p t).1.flat + (fT raw props d p t).2.2 = t := by
  intro d
  induction d with
  | zero =>
    intro p t
    have := cntA_zero _ fun o ho => (fLeaf_fit (rawAt raw p) props o ho).2
    simp [fT, this]
  | succ d ih =>
    intro p t
    have hk := fKind_bd (rawAt raw p) (d + 1) p t
    have h1 := ih (p + 1) t
    have h2 := ih (fT raw props d (p + 1) t).2.1 (fT raw props d (p + 1) t).2.2
    have h3 := ih (p + 1) (t - 1)
    have h4 := ih (fT raw props d (p + 1) (t - 1)).2.1 (fT raw props d (p + 1) (t - 1)).2.2
    unfold fT
    split
    · have := cntA_zero _ fun o ho => (fLeaf_fit (rawAt raw p) props o ho).2
      simp [this]
    · split
      · simp only [Tm.flat, cntA, aheadB]
        simp
        exact h1
      · split
        · have hb : aheadB (8 + fKind (rawAt raw p) (d + 1) p t % 2) = false := by unfold aheadB; simp only [decide_eq_false_iff_not]; omega
          simp only [Tm.flat, cntA, cntA_app, hb]
          simp
          omega
        · have ht : t ≠ 0 := fun e => by have := hk.2.2.2 e; omega
          split
          · have hb : aheadB (aheadK (fKind (rawAt raw p) (d + 1) p t)) = true := by
              unfold aheadB aheadK; split
              · simp
              · split <;> simp
            simp only [Tm.flat, cntA, hb]
            simp
            omega
          · have hb : aheadB (15 + fKind (rawAt raw p) (d + 1) p t % 2) = true := by unfold aheadB; simp only [decide_eq_true_eq]; omega
            simp only [Tm.flat, cntA, cntA_app, hb]
            simp
            omega

end Go.Proofs.YtbmimdnpchldlaaDoor

namespace Go.Proofs.YtbmimdnpchldlaaDoor

/-- The truths of all terms of a formula, by places, where b ops that look ahead stand in front of it. -/
def tvT (L : List Bool) (c : Nat) : Tm → Nat → List Bool
  | .n0 k v, b => [if aheadB k then c.testBit b else if k = 13 then L.getD v.toNat false else decide (k = 11)]
  | .n1 k _ a, b => (if aheadB k then c.testBit b else !(tvT L c a (b + (if aheadB k then 1 else 0))).headD false) :: tvT L c a (b + (if aheadB k then 1 else 0))
  | .n2 k _ x y, b =>
    (if aheadB k then c.testBit b
      else if k = 8 then (tvT L c x (b + (if aheadB k then 1 else 0))).headD false && (tvT L c y (b + (if aheadB k then 1 else 0) + cntA x.flat)).headD false
      else (tvT L c x (b + (if aheadB k then 1 else 0))).headD false || (tvT L c y (b + (if aheadB k then 1 else 0) + cntA x.flat)).headD false) ::
      (tvT L c x (b + (if aheadB k then 1 else 0)) ++ tvT L c y (b + (if aheadB k then 1 else 0) + cntA x.flat))

theorem tvT_len (L : List Bool) (c : Nat) (t : Tm) : ∀ b, (tvT L c t b).length = t.size := by
  induction t with
  | n0 => intro b; rfl
  | n1 k v a ih => intro b; simp [tvT, Tm.size, ih]
  | n2 k v x y ih1 ih2 => intro b; simp [tvT, Tm.size, ih1, ih2]

/-- The place of an op's second part: where its first part ends. -/
def secAt (es : List Int) (i : Nat) : Nat := (es.getD (i + 1) 0).toNat

/-- What each op makes, out of what its parts make. -/
structure TvAt (L : List Bool) (c : Nat) (l : List Op2) (es : List Int) (tv : List Bool) (i : Nat) (k v : Int) : Prop where
  one : partsOf k = 1 ∨ partsOf k = 2 → i + 1 < l.length
  two : partsOf k = 2 → es[i + 1]? = some (secAt es i : Int) ∧ i + 1 < secAt es i ∧ secAt es i < l.length
  ah : aheadB k = true → tv[i]? = some (c.testBit (cntA (l.take i)))
  prop : k = 13 → tv[i]? = some (L.getD v.toNat false)
  yes : k = 11 → tv[i]? = some true
  no : k = 12 → tv[i]? = some false
  not : k = 10 → tv[i]? = some (!tv.getD (i + 1) false)
  and : k = 8 → tv[i]? = some (tv.getD (i + 1) false && tv.getD (secAt es i) false)
  or : k = 9 → tv[i]? = some (tv.getD (i + 1) false || tv.getD (secAt es i) false)

theorem getD_mid (a b c : List Bool) (h : 0 < b.length) : (a ++ b ++ c).getD a.length false = b.headD false := by
  cases b with
  | nil => simp at h
  | cons x b => simp [List.getD]

theorem tv_law (L : List Bool) (c : Nat) (t : Tm) (ht : t.ok) : ∀ (pre post : List Op2) (ea eb : List Int) (ta tb : List Bool), ea.length = pre.length → ta.length = pre.length →
    ∀ i, i < t.size → ∀ k v, (pre ++ t.flat ++ post)[pre.length + i]? = some (k, v) →
      TvAt L c (pre ++ t.flat ++ post) (ea ++ t.ends pre.length ++ eb) (ta ++ tvT L c t (cntA pre) ++ tb) (pre.length + i) k v := by
  induction t with
  | n0 k0 v0 =>
    intro pre post ea eb ta tb he hta i hi k v hkv
    obtain ⟨h1, h2, h3⟩ := ht
    simp only [Tm.size] at hi
    obtain rfl : i = 0 := by omega
    simp only [Tm.flat, Nat.add_zero] at hkv ⊢
    have hkv' : k0 = k ∧ v0 = v := by simpa using hkv
    obtain ⟨rfl, rfl⟩ := hkv'
    have htv : (ta ++ tvT L c (.n0 k0 v0) (cntA pre) ++ tb)[pre.length]? = some (if aheadB k0 then c.testBit (cntA pre) else if k0 = 13 then L.getD v0.toNat false else decide (k0 = 11)) := by
      rw [← hta]; simp [tvT]
    have hnp : ∀ j : Int, partsOf j ≠ 0 → k0 ≠ j := fun j hj e => by subst e; exact hj h3
    refine ⟨fun h => by omega, fun h => by omega, fun h => ?_, fun h => ?_, fun h => ?_, fun h => ?_, fun h => ?_, fun h => ?_, fun h => ?_⟩
    · rw [htv, if_pos h]; simp
    · subst h; rw [htv]; simp [aheadB]
    · subst h; rw [htv]; simp [aheadB]
    · subst h; rw [htv]; simp [aheadB]
    · exact absurd h (hnp 10 (by decide))
    · exact absurd h (hnp 8 (by decide))
    · exact absurd h (hnp 9 (by decide))
  | n1 k0 v0 a ih =>
    intro pre post ea eb ta tb he hta i hi k v hkv
    obtain ⟨h1, h2, h3, h4⟩ := ht
    have hfl := a.flat_len
    have hel := a.ends_len (pre.length + 1)
    have hsz := a.size_pos
    have htl := tvT_len L c a (cntA (pre ++ [(k0, v0)]))
    have hcn : cntA (pre ++ [(k0, v0)]) = cntA pre + (if aheadB k0 then 1 else 0) := by rw [cntA_app]; simp [cntA]
    have e1 : pre ++ Tm.flat (.n1 k0 v0 a) ++ post = (pre ++ [(k0, v0)]) ++ a.flat ++ post := by simp [Tm.flat]
    have e2 : ea ++ Tm.ends (.n1 k0 v0 a) pre.length ++ eb = (ea ++ [((pre.length + 1 + a.size : Nat) : Int)]) ++ a.ends (pre ++ [(k0, v0)]).length ++ eb := by simp [Tm.ends]
    obtain ⟨h0, hh0⟩ : ∃ x, x = (if aheadB k0 then c.testBit (cntA pre) else !(tvT L c a (cntA (pre ++ [(k0, v0)]))).headD false) := ⟨_, rfl⟩
    have e3 : ta ++ tvT L c (.n1 k0 v0 a) (cntA pre) ++ tb = (ta ++ [h0]) ++ tvT L c a (cntA (pre ++ [(k0, v0)])) ++ tb := by rw [hh0, hcn]; simp [tvT]
    rw [e1] at hkv
    rw [e1, e2, e3]
    by_cases hi0 : i = 0
    · subst hi0
      have hkv' : k0 = k ∧ v0 = v := by simpa using hkv
      obtain ⟨rfl, rfl⟩ := hkv'
      have hat : ((ta ++ [h0]) ++ tvT L c a (cntA (pre ++ [(k0, v0)])) ++ tb)[pre.length + 0]? = some h0 := by rw [Nat.add_zero, ← hta]; simp
      have hnx : ((ta ++ [h0]) ++ tvT L c a (cntA (pre ++ [(k0, v0)])) ++ tb).getD (pre.length + 0 + 1) false = (tvT L c a (cntA (pre ++ [(k0, v0)]))).headD false := by
        have := getD_mid (ta ++ [h0]) (tvT L c a (cntA (pre ++ [(k0, v0)]))) tb (by omega)
        rw [← this]; simp [hta]
      have htk : ((pre ++ [(k0, v0)]) ++ a.flat ++ post).take (pre.length + 0) = pre := by simp
      have hnp : ∀ j : Int, partsOf j ≠ 1 → k0 ≠ j := fun j hj e => by subst e; exact hj h3
      refine ⟨fun h => by simp; omega, fun h => by omega, fun h => ?_, fun h => absurd h (hnp 13 (by decide)), fun h => absurd h (hnp 11 (by decide)), fun h => absurd h (hnp 12 (by decide)), fun h => ?_, fun h => absurd h (hnp 8 (by decide)), fun h => absurd h (hnp 9 (by decide))⟩
      · rw [hat, htk, hh0, if_pos h]
      · rw [hat, hnx, hh0]
        have : aheadB k0 = false := by subst h; decide
        rw [this]; rfl
    · have := ih h4 (pre ++ [(k0, v0)]) post (ea ++ [((pre.length + 1 + a.size : Nat) : Int)]) eb (ta ++ [h0]) tb (by simp [he]) (by simp [hta]) (i - 1) (by simp only [Tm.size] at hi; omega) k v (by
        rw [show (pre ++ [(k0, v0)]).length + (i - 1) = pre.length + i by simp; omega]; exact hkv)
      rw [show (pre ++ [(k0, v0)]).length + (i - 1) = pre.length + i by simp; omega] at this
      exact this
  | n2 k0 v0 x y ih1 ih2 =>
    intro pre post ea eb ta tb he hta i hi k v hkv
    obtain ⟨h1, h2, h3, h4, h5⟩ := ht
    have hfx := x.flat_len
    have hfy := y.flat_len
    have hsx := x.size_pos
    have hsy := y.size_pos
    have hex := x.ends_len (pre.length + 1)
    have hlx := tvT_len L c x (cntA (pre ++ [(k0, v0)]))
    have hly := tvT_len L c y (cntA (pre ++ [(k0, v0)] ++ x.flat))
    have hcx : cntA (pre ++ [(k0, v0)]) = cntA pre + (if aheadB k0 then 1 else 0) := by rw [cntA_app]; simp [cntA]
    have hcy : cntA (pre ++ [(k0, v0)] ++ x.flat) = cntA pre + (if aheadB k0 then 1 else 0) + cntA x.flat := by rw [cntA_app, hcx]
    have e1 : pre ++ Tm.flat (.n2 k0 v0 x y) ++ post = (pre ++ [(k0, v0)]) ++ x.flat ++ (y.flat ++ post) := by simp [Tm.flat]
    have e1' : pre ++ Tm.flat (.n2 k0 v0 x y) ++ post = (pre ++ [(k0, v0)] ++ x.flat) ++ y.flat ++ post := by simp [Tm.flat]
    obtain ⟨E0, hE0⟩ : ∃ e, e = ((pre.length + 1 + x.size + y.size : Nat) : Int) := ⟨_, rfl⟩
    have e2 : ea ++ Tm.ends (.n2 k0 v0 x y) pre.length ++ eb = (ea ++ [E0]) ++ x.ends (pre ++ [(k0, v0)]).length ++ (y.ends (pre.length + 1 + x.size) ++ eb) := by simp [Tm.ends, hE0]
    have e2' : ea ++ Tm.ends (.n2 k0 v0 x y) pre.length ++ eb = (ea ++ [E0] ++ x.ends (pre.length + 1)) ++ y.ends (pre ++ [(k0, v0)] ++ x.flat).length ++ eb := by
      rw [show (pre ++ [(k0, v0)] ++ x.flat).length = pre.length + 1 + x.size by simp [hfx]; omega]
      simp [Tm.ends, hE0]
    obtain ⟨h0, hh0⟩ : ∃ z, z = (if aheadB k0 then c.testBit (cntA pre) else if k0 = 8 then (tvT L c x (cntA (pre ++ [(k0, v0)]))).headD false && (tvT L c y (cntA (pre ++ [(k0, v0)] ++ x.flat))).headD false
      else (tvT L c x (cntA (pre ++ [(k0, v0)]))).headD false || (tvT L c y (cntA (pre ++ [(k0, v0)] ++ x.flat))).headD false) := ⟨_, rfl⟩
    have e3 : ta ++ tvT L c (.n2 k0 v0 x y) (cntA pre) ++ tb = (ta ++ [h0]) ++ tvT L c x (cntA (pre ++ [(k0, v0)])) ++ (tvT L c y (cntA (pre ++ [(k0, v0)] ++ x.flat)) ++ tb) := by rw [hh0, hcx, hcy]; simp [tvT]
    have e3' : ta ++ tvT L c (.n2 k0 v0 x y) (cntA pre) ++ tb = (ta ++ [h0] ++ tvT L c x (cntA (pre ++ [(k0, v0)]))) ++ tvT L c y (cntA (pre ++ [(k0, v0)] ++ x.flat)) ++ tb := by rw [e3]; simp
    by_cases hi0 : i = 0
    · subst hi0
      rw [e1] at hkv
      rw [e1, e2, e3]
      have hkv' : k0 = k ∧ v0 = v := by simpa using hkv
      obtain ⟨rfl, rfl⟩ := hkv'
      have hat : ((ta ++ [h0]) ++ tvT L c x (cntA (pre ++ [(k0, v0)])) ++ (tvT L c y (cntA (pre ++ [(k0, v0)] ++ x.flat)) ++ tb))[pre.length + 0]? = some h0 := by rw [Nat.add_zero, ← hta]; simp
      have hnx : ((ta ++ [h0]) ++ tvT L c x (cntA (pre ++ [(k0, v0)])) ++ (tvT L c y (cntA (pre ++ [(k0, v0)] ++ x.flat)) ++ tb)).getD (pre.length + 0 + 1) false = (tvT L c x (cntA (pre ++ [(k0, v0)]))).headD false := by
        have := getD_mid (ta ++ [h0]) (tvT L c x (cntA (pre ++ [(k0, v0)]))) (tvT L c y (cntA (pre ++ [(k0, v0)] ++ x.flat)) ++ tb) (by omega)
        rw [← this]; simp [hta]
      have hes : ((ea ++ [E0]) ++ x.ends (pre ++ [(k0, v0)]).length ++ (y.ends (pre.length + 1 + x.size) ++ eb))[pre.length + 0 + 1]? = some (((pre.length + 1 + x.size : Nat)) : Int) := by
        have hz := ends_zero x (pre.length + 1) (by rw [hex]; exact hsx)
        have hl2 : (pre ++ [(k0, v0)]).length = pre.length + 1 := by simp
        rw [hl2, List.append_assoc, List.getElem?_append_right (by simp [he]), List.getElem?_append_left (by rw [hex]; simp [he]; exact hsx)]
        rw [show pre.length + 0 + 1 - (ea ++ [E0]).length = 0 by simp [he], List.getElem?_eq_getElem (by rw [hex]; exact hsx), hz]
      have hsec : secAt ((ea ++ [E0]) ++ x.ends (pre ++ [(k0, v0)]).length ++ (y.ends (pre.length + 1 + x.size) ++ eb)) (pre.length + 0) = pre.length + 1 + x.size := by
        unfold secAt
        rw [List.getD, hes]
        show ((pre.length + 1 + x.size : Nat) : Int).toNat = _
        omega
      have hny : ((ta ++ [h0]) ++ tvT L c x (cntA (pre ++ [(k0, v0)])) ++ (tvT L c y (cntA (pre ++ [(k0, v0)] ++ x.flat)) ++ tb)).getD (pre.length + 1 + x.size) false = (tvT L c y (cntA (pre ++ [(k0, v0)] ++ x.flat))).headD false := by
        have := getD_mid (ta ++ [h0] ++ tvT L c x (cntA (pre ++ [(k0, v0)]))) (tvT L c y (cntA (pre ++ [(k0, v0)] ++ x.flat))) tb (by omega)
        rw [← this]
        congr 1
        · simp
        · simp [hta, hlx]; omega
      have htk : ((pre ++ [(k0, v0)]) ++ x.flat ++ (y.flat ++ post)).take (pre.length + 0) = pre := by simp
      have hnp : ∀ j : Int, partsOf j ≠ 2 → k0 ≠ j := fun j hj e => by subst e; exact hj h3
      refine ⟨fun h => by simp; omega, fun h => ?_, fun h => ?_, fun h => absurd h (hnp 13 (by decide)), fun h => absurd h (hnp 11 (by decide)), fun h => absurd h (hnp 12 (by decide)), fun h => absurd h (hnp 10 (by decide)), fun h => ?_, fun h => ?_⟩
      · rw [hsec]
        exact ⟨hes, by omega, by simp; omega⟩
      · rw [hat, htk, hh0, if_pos h]
      · rw [hat, hnx, hsec, hny, hh0]
        have : aheadB k0 = false := by subst h; decide
        rw [this, if_pos h]; rfl
      · rw [hat, hnx, hsec, hny, hh0]
        have : aheadB k0 = false := by subst h; decide
        rw [this, if_neg (show ¬ k0 = 8 by omega)]; rfl
    · by_cases hix : i - 1 < x.size
      · rw [e1] at hkv
        rw [e1, e2, e3]
        have := ih1 h4 (pre ++ [(k0, v0)]) (y.flat ++ post) (ea ++ [E0]) (y.ends (pre.length + 1 + x.size) ++ eb) (ta ++ [h0]) (tvT L c y (cntA (pre ++ [(k0, v0)] ++ x.flat)) ++ tb) (by simp [he]) (by simp [hta]) (i - 1) hix k v (by
          rw [show (pre ++ [(k0, v0)]).length + (i - 1) = pre.length + i by simp; omega]; exact hkv)
        rw [show (pre ++ [(k0, v0)]).length + (i - 1) = pre.length + i by simp; omega] at this
        exact this
      · rw [e1'] at hkv
        rw [e1', e2', e3']
        have hpl : (pre ++ [(k0, v0)] ++ x.flat).length + (i - 1 - x.size) = pre.length + i := by simp [hfx]; omega
        have := ih2 h5 (pre ++ [(k0, v0)] ++ x.flat) post (ea ++ [E0] ++ x.ends (pre.length + 1)) eb (ta ++ [h0] ++ tvT L c x (cntA (pre ++ [(k0, v0)]))) tb (by simp [he, hex, hfx]) (by simp [hta, hlx, hfx]) (i - 1 - x.size) (by simp only [Tm.size] at hi; omega) k v (by rw [hpl]; exact hkv)
        rw [hpl] at this
        exact this

end Go.Proofs.YtbmimdnpchldlaaDoor

namespace Go.Proofs.YtbmimdnpchldlaaDoor
open Go.RowKit

def RawF (raw : List Op2) : Prop := ∀ p, I64 (rawAt raw p).1 ∧ I64 (rawAt raw p).2

def FMade (w : World) (G B : Nat) (ar : Option Addr) (cr : Nat) (raw : List Op2) (vars props : Int) (out : List Op2) (r : Tm × Nat × Nat) (e : Ending) (w' : World) : Prop :=
  e = .returned (.tuple #[]) ∧ Gr w' G B ar cr raw r.2.1 vars props (r.2.2 : Int) (out ++ r.1.flat) ∧ Below B w w'

theorem FMade.mk {w w' : World} {G B : Nat} {ar : Option Addr} {cr : Nat} {raw : List Op2} {vars props : Int} {out out' : List Op2} {r : Tm × Nat × Nat} {e : Ending} {p t : Nat}
    (he : e = .returned (.tuple #[])) (hg : Gr w' G B ar cr raw p vars props (t : Int) out') (hb : Below B w w') (hp : p = r.2.1) (ht : t = r.2.2) (ho : out' = out ++ r.1.flat) : FMade w G B ar cr raw vars props out r e w' := by
  subst hp; subst ho; subst ht; exact ⟨he, hg, hb⟩

section
variable (w : World) (G B : Nat) (ar : Option Addr) (cr : Nat) (raw : List Op2) (p : Nat) (vars props : Int) (t : Nat) (out : List Op2)

set_option maxRecDepth 100000 in
set_option maxHeartbeats 2000000 in
theorem formula_leaf (h : Gr w G B ar cr raw p vars props (t : Int) out) (hraw : RawF raw) (hp : p ≤ 700) (ho : out.length ≤ 700) (hv : 0 < props) (hv2 : props ≤ 1000) (deep : Int) (hm : deep = 0 ∨ 12 ≤ p) :
    Calls Tryd.prog 31 #[.pointer (some ⟨G, 0, none⟩), .int .i64 deep] w (FMade w G B ar cr raw vars props out (fLeaf (rawAt raw p) props, p + 1, t)) := by
  have TK := Lib.hid (take_any w G B ar cr raw p vars props t out h (by omega))
  have hBw : B ≤ w.heap.size := by have := World.block_lt_of_cell? _ _ h.c0; have := h.new; simp at *; omega
  have hr := hraw p
  generalize rawAt raw p = r at *
  obtain ⟨⟨r1, r2⟩, r3, r4⟩ := hr
  have hfl : (fLeaf r props).flat = [(13, pk r.2 props)] := by unfold fLeaf; rw [if_pos hv]; rfl
  have HFL := Lib.hid hfl
  have HPK := Lib.hid (picked_any r.1 16 · r1 r2 (by omega) (by omega))
  have HPL := Lib.hid (picked_any r.1 4 · r1 r2 (by omega) (by omega))
  have HS := Lib.hid (fun wx : World => still_of (picked_any r.2 props wx r3 r4 hv (by omega)))
  obtain ⟨k0, hk0⟩ : ∃ k, k = pk r.1 16 := ⟨_, rfl⟩
  obtain ⟨kk, hkk⟩ : ∃ k, k = pk r.1 4 := ⟨_, rfl⟩
  have hkb := pk_bd r.1 4 (by omega)
  rw [← hkk] at hkb HPL
  rw [← hk0] at HPK
  obtain ⟨hk1, hk2⟩ := hkb
  have hk8 : ¬ (8 : Int) < kk := by omega
  have hpI : (12 : Int) < (p : Int) + 1 ∨ deep = 0 := by omega
  clear hk0 hkk hfl
  obtain ⟨b0, hb0, hb1⟩ : ∃ b : Bool, (deep == 0) = b ∧ (b = true ∨ (12 : Int) < (p : Int) + 1) := by
    refine ⟨_, rfl, ?_⟩
    rcases hpI with h | h
    · exact .inr h
    · left; rw [h]; rfl
  clear hpI hm
  cases b0
  case' false => replace hb1 : (12 : Int) < (p : Int) + 1 := by simpa using hb1
  all_goals
    go_enter Tryd.func31, Tryd.ntmps31
    go_wp2_with fail
    refine TK.out.mono ?_
    rintro e w1 ⟨rfl, g1, b1⟩
    have hg1 := g1.ext ((Ext.refl w1).alloc (Nat.le_refl _) (Obj.cells #[.int .i64 r.1, .int .i64 r.2] 124))
    have hb2 : Below B w (w1.alloc (Obj.cells #[.int .i64 r.1, .int .i64 r.2] 124)) := b1.alloc (by have := b1.size; omega) _
    have q0 : (w1.alloc (Obj.cells #[.int .i64 r.1, .int .i64 r.2] 124)).cell? ⟨w1.heap.size, 0, none⟩ = some (.int .i64 r.1) := by simp [go_sem]
    have q1 : (w1.alloc (Obj.cells #[.int .i64 r.1, .int .i64 r.2] 124)).cell? ⟨w1.heap.size, 1, none⟩ = some (.int .i64 r.2) := by simp [go_sem]
    have c1 := hg1.c1
    have c3 := hg1.c3
    have HG1 := Lib.hid hg1
    have HB2 := Lib.hid hb2
    clear TK g1 b1 hg1 hb2
    go_wp2_with fail
    refine (HPK.out _).mono ?_
    rintro e w' ⟨rfl, rfl⟩
    go_wp2_with fail
    refine (HPL.out _).mono ?_
    rintro e w' ⟨rfl, rfl⟩
    go_wp2_with fail
    refine region_tail 8 (by kernel_rfl) (by kernel_rfl) ?_
    generalize (w1.alloc (Obj.cells #[.int .i64 r.1, .int .i64 r.2] 124)) = W at *
    have hg1' := HG1.out.ext (Below.drew (Ext.refl W))
    have hb1' := HB2.out.drew
    have q1' : W.drew.cell? ⟨w1.heap.size, 1, none⟩ = some (.int .i64 r.2) := q1
    have c3' : W.drew.cell? ⟨G, 3, none⟩ = some (.int .i64 props) := c3
    have HG1' := Lib.hid hg1'
    have HB1' := Lib.hid hb1'
    clear HG1 HB2 q0 q1 c1 c3 hg1' hb1'
    generalize W.drew = Wd at *
    simp only [List.take_succ_cons, List.take_zero, List.drop_succ_cons, List.drop_zero]
    iterate 7 still_step
    still_call (HS.out Wd)
    refine wpStill_nil ?_
    go_wp2_with fail
    refine (put_op _ G B ar cr raw (p + 1) vars props t out _ _ HG1'.out (by omega)).mono ?_
    rintro e w2 ⟨rfl, hg2, hb2⟩
    have HG2 := Lib.hid hg2
    have HB3 := Lib.hid (HB1'.out.trans hb2)
    clear hg2 hb2
    go_wp2
    go_end0
    exact FMade.mk rfl HG2.out HB3.out rfl rfl (by rw [HFL.out])
end

end Go.Proofs.YtbmimdnpchldlaaDoor

namespace Go.Proofs.YtbmimdnpchldlaaDoor
open Go.RowKit

section
variable (w : World) (G B : Nat) (ar : Option Addr) (cr : Nat) (raw : List Op2) (p : Nat) (vars props : Int) (t : Nat) (out : List Op2)


set_option maxRecDepth 100000 in
set_option maxHeartbeats 2000000 in
theorem formula_not (h : Gr w G B ar cr raw p vars props (t : Int) out) (hraw : RawF raw) (d : Nat) (hd : d ≤ 5) (hp12 : p < 12) (ho : out.length + 100 * (d + 1) ≤ 700) (htb : t ≤ 1000) (kk : Int) (hsel : pk (rawAt raw p).1 16 = kk) (hk4 : 4 ≤ kk) (hk6 : kk < 6)
    (ih : ∀ (w : World) (p : Nat) (t : Nat) (out : List Op2), Gr w G B ar cr raw p vars props (t : Int) out → p ≤ 14 + d + 30 → out.length + 100 * d ≤ 700 → t ≤ 1000 → Calls Tryd.prog 31 #[.pointer (some ⟨G, 0, none⟩), .int .i64 d] w (FMade w G B ar cr raw vars props out (fT raw props d p t)))
    : Calls Tryd.prog 31 #[.pointer (some ⟨G, 0, none⟩), .int .i64 ((d + 1 : Nat) : Int)] w (FMade w G B ar cr raw vars props out (.n1 10 0 (fT raw props d (p + 1) t).1, (fT raw props d (p + 1) t).2)) := by
  have TK := Lib.hid (take_any w G B ar cr raw p vars props t out h (by omega))
  have hBw : B ≤ w.heap.size := by have := World.block_lt_of_cell? _ _ h.c0; have := h.new; simp at *; omega
  have hr := hraw p
  have hz1 := fT_end raw props d (p + 1) (t)
  have hz2 := fT_size raw props d (p + 1) (t)
  have hz5 := Tm.flat_len (fT raw props d (p + 1) (t)).1
  have ih1 := fun w' out' g h1 h2 => ih w' (p + 1) (t) out' g h1 h2 (by omega)
  have hz6 := fT_cnt raw props d (p + 1) (t)
  generalize fT raw props d (p + 1) (t) = t1 at *
  obtain ⟨tm1, p1, n1⟩ := t1
  simp only at hz1 hz2 hz5 ih1
  have HZ1 := Lib.hid (show p1 ≤ 14 + d + 30 by omega)
  have HZ5 := Lib.hid (show tm1.flat.length ≤ 20 by omega)
  have IH1 := Lib.hid ih1
  clear ih1 hz1 hz2 hz5 hz6 ih
  generalize rawAt raw p = r at *
  obtain ⟨⟨r1, r2⟩, r3, r4⟩ := hr
  have HPK := Lib.hid (picked_any r.1 16 · r1 r2 (by omega) (by omega))
  have hkb := pk_bd r.1 16 (by omega)
  have e0 : ((d : Int) + 1 == 0) = false := by rw [beq_eq_false_iff_ne]; omega
  have e1 : (0 : Int) ≤ d := by omega
  have hpI : ¬ (12 : Int) < (p : Int) + 1 := by omega
  rw [hsel] at HPK hkb
  obtain ⟨hkb1, hkb2⟩ := hkb
  clear hsel
  have hl4 : ¬ kk < 4 := by omega
  have hl8 : ¬ (8 : Int) < kk := by omega
  go_enter Tryd.func31, Tryd.ntmps31
  go_wp2_with fail
  refine TK.out.mono ?_
  rintro e w1 ⟨rfl, g1, b1⟩
  have hg1 := g1.ext ((Ext.refl w1).alloc (Nat.le_refl _) (Obj.cells #[.int .i64 r.1, .int .i64 r.2] 124))
  have hb2 : Below B w (w1.alloc (Obj.cells #[.int .i64 r.1, .int .i64 r.2] 124)) := b1.alloc (by have := b1.size; omega) _
  have q0 : (w1.alloc (Obj.cells #[.int .i64 r.1, .int .i64 r.2] 124)).cell? ⟨w1.heap.size, 0, none⟩ = some (.int .i64 r.1) := by simp [go_sem]
  have q1 : (w1.alloc (Obj.cells #[.int .i64 r.1, .int .i64 r.2] 124)).cell? ⟨w1.heap.size, 1, none⟩ = some (.int .i64 r.2) := by simp [go_sem]
  have c1 := hg1.c1
  have c3 := hg1.c3
  have c4 := hg1.c4
  have f4 := hg1.fz 4
  have HG1 := Lib.hid hg1
  have HB2 := Lib.hid hb2
  clear TK g1 b1 hg1 hb2
  go_wp2_with fail
  refine (HPK.out _).mono ?_
  rintro e w' ⟨rfl, rfl⟩
  go_wp2_with fail
  refine (put_op _ G B ar cr raw (p + 1) vars props t out _ _ HG1.out (by omega)).mono ?_
  rintro e w2 ⟨rfl, hg2, hb3⟩
  have HG2 := Lib.hid hg2
  have HB3 := Lib.hid (HB2.out.trans hb3)
  clear hg2 hb3
  go_wp2_with fail
  refine (IH1.out w2 _ HG2.out (by omega) (by simp; omega)).mono ?_
  rintro e w3 ⟨rfl, hg3, hb4⟩
  have HG3 := Lib.hid hg3
  have HB4 := Lib.hid (HB3.out.trans hb4)
  clear hg3 hb4 HG2 HB3
  go_wp2
  go_end0
  exact FMade.mk rfl HG3.out HB4.out rfl rfl (by simp [Tm.flat])

set_option maxRecDepth 100000 in
set_option maxHeartbeats 2000000 in
theorem formula_bin (h : Gr w G B ar cr raw p vars props (t : Int) out) (hraw : RawF raw) (d : Nat) (hd : d ≤ 5) (hp12 : p < 12) (ho : out.length + 100 * (d + 1) ≤ 700) (htb : t ≤ 1000) (kk : Int) (hsel : pk (rawAt raw p).1 16 = kk) (hk6 : 6 ≤ kk) (hk9 : kk < 9)
    (ih : ∀ (w : World) (p : Nat) (t : Nat) (out : List Op2), Gr w G B ar cr raw p vars props (t : Int) out → p ≤ 14 + d + 30 → out.length + 100 * d ≤ 700 → t ≤ 1000 → Calls Tryd.prog 31 #[.pointer (some ⟨G, 0, none⟩), .int .i64 d] w (FMade w G B ar cr raw vars props out (fT raw props d p t)))
    : Calls Tryd.prog 31 #[.pointer (some ⟨G, 0, none⟩), .int .i64 ((d + 1 : Nat) : Int)] w (FMade w G B ar cr raw vars props out (.n2 (8 + kk % 2) 0 (fT raw props d (p + 1) t).1 (fT raw props d (fT raw props d (p + 1) t).2.1 (fT raw props d (p + 1) t).2.2).1, (fT raw props d (fT raw props d (p + 1) t).2.1 (fT raw props d (p + 1) t).2.2).2)) := by
  have TK := Lib.hid (take_any w G B ar cr raw p vars props t out h (by omega))
  have hBw : B ≤ w.heap.size := by have := World.block_lt_of_cell? _ _ h.c0; have := h.new; simp at *; omega
  have hr := hraw p
  have hz1 := fT_end raw props d (p + 1) (t)
  have hz2 := fT_size raw props d (p + 1) (t)
  have hz5 := Tm.flat_len (fT raw props d (p + 1) (t)).1
  have ih1 := fun w' out' g h1 h2 => ih w' (p + 1) (t) out' g h1 h2 (by omega)
  have hz6 := fT_cnt raw props d (p + 1) (t)
  have ih2 := fun w' out' g h1 h2 => ih w' (fT raw props d (p + 1) (t)).2.1 (fT raw props d (p + 1) (t)).2.2 out' g h1 h2 (by omega)
  generalize fT raw props d (p + 1) (t) = t1 at *
  generalize fT raw props d t1.2.1 t1.2.2 = t2 at *
  obtain ⟨tm1, p1, n1⟩ := t1
  obtain ⟨tm2, p2, n2⟩ := t2
  simp only at hz1 hz2 hz5 ih1 ih2
  have IH2 := Lib.hid ih2
  clear ih2
  have HZ1 := Lib.hid (show p1 ≤ 14 + d + 30 by omega)
  have HZ5 := Lib.hid (show tm1.flat.length ≤ 20 by omega)
  have IH1 := Lib.hid ih1
  clear ih1 hz1 hz2 hz5 hz6 ih
  generalize rawAt raw p = r at *
  obtain ⟨⟨r1, r2⟩, r3, r4⟩ := hr
  have HPK := Lib.hid (picked_any r.1 16 · r1 r2 (by omega) (by omega))
  have hkb := pk_bd r.1 16 (by omega)
  have e0 : ((d : Int) + 1 == 0) = false := by rw [beq_eq_false_iff_ne]; omega
  have e1 : (0 : Int) ≤ d := by omega
  have hpI : ¬ (12 : Int) < (p : Int) + 1 := by omega
  rw [hsel] at HPK hkb
  obtain ⟨hkb1, hkb2⟩ := hkb
  clear hsel
  have hl4 : ¬ kk < 4 := by omega
  have hl6 : ¬ kk < 6 := by omega
  have hl8 : ¬ (8 : Int) < kk := by omega
  have hm2 : kk.tmod 2 = kk % 2 := Int.tmod_eq_emod_of_nonneg (by omega)
  have hw2 : IntKind.i64.wrap ((8 : Int) + kk % 2) = 8 + kk % 2 := IntWalk.i64_in _ (by omega)
  go_enter Tryd.func31, Tryd.ntmps31
  go_wp2_with fail
  refine TK.out.mono ?_
  rintro e w1 ⟨rfl, g1, b1⟩
  have hg1 := g1.ext ((Ext.refl w1).alloc (Nat.le_refl _) (Obj.cells #[.int .i64 r.1, .int .i64 r.2] 124))
  have hb2 : Below B w (w1.alloc (Obj.cells #[.int .i64 r.1, .int .i64 r.2] 124)) := b1.alloc (by have := b1.size; omega) _
  have q0 : (w1.alloc (Obj.cells #[.int .i64 r.1, .int .i64 r.2] 124)).cell? ⟨w1.heap.size, 0, none⟩ = some (.int .i64 r.1) := by simp [go_sem]
  have q1 : (w1.alloc (Obj.cells #[.int .i64 r.1, .int .i64 r.2] 124)).cell? ⟨w1.heap.size, 1, none⟩ = some (.int .i64 r.2) := by simp [go_sem]
  have c1 := hg1.c1
  have c3 := hg1.c3
  have c4 := hg1.c4
  have f4 := hg1.fz 4
  have HG1 := Lib.hid hg1
  have HB2 := Lib.hid hb2
  clear TK g1 b1 hg1 hb2
  go_wp2_with fail
  refine (HPK.out _).mono ?_
  rintro e w' ⟨rfl, rfl⟩
  go_wp2_with fail
  refine (put_op _ G B ar cr raw (p + 1) vars props t out _ _ HG1.out (by omega)).mono ?_
  rintro e w2 ⟨rfl, hg2, hb3⟩
  have HG2 := Lib.hid hg2
  have HB3 := Lib.hid (HB2.out.trans hb3)
  clear hg2 hb3
  go_wp2_with fail
  refine (IH1.out w2 _ HG2.out (by omega) (by simp; omega)).mono ?_
  rintro e w3 ⟨rfl, hg3, hb4⟩
  have HG3 := Lib.hid hg3
  have HB4 := Lib.hid (HB3.out.trans hb4)
  clear hg3 hb4 HG2 HB3
  go_wp2_with fail
  refine (IH2.out w3 _ HG3.out HZ1.out (by have := HZ5.out; simp at this ⊢; omega)).mono ?_
  rintro e w4 ⟨rfl, hg4, hb5⟩
  have HG4 := Lib.hid hg4
  have HB5 := Lib.hid (HB4.out.trans hb5)
  clear hg4 hb5 HG3 HB4
  go_wp2
  go_end0
  exact FMade.mk rfl HG4.out HB5.out rfl rfl (by simp [Tm.flat])

set_option maxRecDepth 100000 in
set_option maxHeartbeats 2000000 in
theorem formula_nots (h : Gr w G B ar cr raw p vars props (t : Int) out) (hraw : RawF raw) (d : Nat) (hd : d ≤ 5) (hp12 : p < 12) (ho : out.length + 100 * (d + 1) ≤ 700) (htb : t ≤ 1000) (kk : Int) (k0 : Int) (hk0 : pk (rawAt raw p).1 16 = k0) (h8 : 8 < k0) (ht0 : t = 0) (hsel : 4 + k0 % 5 = kk) (hk4 : 4 ≤ kk) (hk6 : kk < 6)
    (ih : ∀ (w : World) (p : Nat) (t : Nat) (out : List Op2), Gr w G B ar cr raw p vars props (t : Int) out → p ≤ 14 + d + 30 → out.length + 100 * d ≤ 700 → t ≤ 1000 → Calls Tryd.prog 31 #[.pointer (some ⟨G, 0, none⟩), .int .i64 d] w (FMade w G B ar cr raw vars props out (fT raw props d p t)))
    : Calls Tryd.prog 31 #[.pointer (some ⟨G, 0, none⟩), .int .i64 ((d + 1 : Nat) : Int)] w (FMade w G B ar cr raw vars props out (.n1 10 0 (fT raw props d (p + 1) t).1, (fT raw props d (p + 1) t).2)) := by
  have TK := Lib.hid (take_any w G B ar cr raw p vars props t out h (by omega))
  have hBw : B ≤ w.heap.size := by have := World.block_lt_of_cell? _ _ h.c0; have := h.new; simp at *; omega
  have hr := hraw p
  have hz1 := fT_end raw props d (p + 1) (t)
  have hz2 := fT_size raw props d (p + 1) (t)
  have hz5 := Tm.flat_len (fT raw props d (p + 1) (t)).1
  have ih1 := fun w' out' g h1 h2 => ih w' (p + 1) (t) out' g h1 h2 (by omega)
  have hz6 := fT_cnt raw props d (p + 1) (t)
  generalize fT raw props d (p + 1) (t) = t1 at *
  obtain ⟨tm1, p1, n1⟩ := t1
  simp only at hz1 hz2 hz5 ih1
  have HZ1 := Lib.hid (show p1 ≤ 14 + d + 30 by omega)
  have HZ5 := Lib.hid (show tm1.flat.length ≤ 20 by omega)
  have IH1 := Lib.hid ih1
  clear ih1 hz1 hz2 hz5 hz6 ih
  generalize rawAt raw p = r at *
  obtain ⟨⟨r1, r2⟩, r3, r4⟩ := hr
  have HPK := Lib.hid (picked_any r.1 16 · r1 r2 (by omega) (by omega))
  have hkb := pk_bd r.1 16 (by omega)
  have e0 : ((d : Int) + 1 == 0) = false := by rw [beq_eq_false_iff_ne]; omega
  have e1 : (0 : Int) ≤ d := by omega
  have hpI : ¬ (12 : Int) < (p : Int) + 1 := by omega
  rw [hk0] at HPK hkb
  obtain ⟨hkb1, hkb2⟩ := hkb
  have hm5 : k0.tmod 5 = k0 % 5 := Int.tmod_eq_emod_of_nonneg hkb1
  have hs5 : (4 : Int) + k0 % 5 = kk := hsel
  have hw5 : IntKind.i64.wrap ((4 : Int) + k0 % 5) = kk := by rw [hs5]; exact IntWalk.i64_in _ (by omega)
  clear hk0 hsel
  have hl4 : ¬ kk < 4 := by omega
  have hl8 : (8 : Int) < k0 := by omega
  have htI : ((t : Int) == 0) = true := by rw [ht0]; rfl
  have HT0 := Lib.hid ht0
  clear ht0
  go_enter Tryd.func31, Tryd.ntmps31
  go_wp2_with fail
  refine TK.out.mono ?_
  rintro e w1 ⟨rfl, g1, b1⟩
  have hg1 := g1.ext ((Ext.refl w1).alloc (Nat.le_refl _) (Obj.cells #[.int .i64 r.1, .int .i64 r.2] 124))
  have hb2 : Below B w (w1.alloc (Obj.cells #[.int .i64 r.1, .int .i64 r.2] 124)) := b1.alloc (by have := b1.size; omega) _
  have q0 : (w1.alloc (Obj.cells #[.int .i64 r.1, .int .i64 r.2] 124)).cell? ⟨w1.heap.size, 0, none⟩ = some (.int .i64 r.1) := by simp [go_sem]
  have q1 : (w1.alloc (Obj.cells #[.int .i64 r.1, .int .i64 r.2] 124)).cell? ⟨w1.heap.size, 1, none⟩ = some (.int .i64 r.2) := by simp [go_sem]
  have c1 := hg1.c1
  have c3 := hg1.c3
  have c4 := hg1.c4
  have f4 := hg1.fz 4
  have HG1 := Lib.hid hg1
  have HB2 := Lib.hid hb2
  clear TK g1 b1 hg1 hb2
  go_wp2_with fail
  refine (HPK.out _).mono ?_
  rintro e w' ⟨rfl, rfl⟩
  go_wp2_with fail
  refine (put_op _ G B ar cr raw (p + 1) vars props t out _ _ HG1.out (by omega)).mono ?_
  rintro e w2 ⟨rfl, hg2, hb3⟩
  have HG2 := Lib.hid hg2
  have HB3 := Lib.hid (HB2.out.trans hb3)
  clear hg2 hb3
  go_wp2_with fail
  refine (IH1.out w2 _ HG2.out (by omega) (by simp; omega)).mono ?_
  rintro e w3 ⟨rfl, hg3, hb4⟩
  have HG3 := Lib.hid hg3
  have HB4 := Lib.hid (HB3.out.trans hb4)
  clear hg3 hb4 HG2 HB3
  go_wp2
  go_end0
  exact FMade.mk rfl HG3.out HB4.out rfl rfl (by simp [Tm.flat])

set_option maxRecDepth 100000 in
set_option maxHeartbeats 2000000 in
theorem formula_bins (h : Gr w G B ar cr raw p vars props (t : Int) out) (hraw : RawF raw) (d : Nat) (hd : d ≤ 5) (hp12 : p < 12) (ho : out.length + 100 * (d + 1) ≤ 700) (htb : t ≤ 1000) (kk : Int) (k0 : Int) (hk0 : pk (rawAt raw p).1 16 = k0) (h8 : 8 < k0) (ht0 : t = 0) (hsel : 4 + k0 % 5 = kk) (hk6 : 6 ≤ kk) (hk9 : kk < 9)
    (ih : ∀ (w : World) (p : Nat) (t : Nat) (out : List Op2), Gr w G B ar cr raw p vars props (t : Int) out → p ≤ 14 + d + 30 → out.length + 100 * d ≤ 700 → t ≤ 1000 → Calls Tryd.prog 31 #[.pointer (some ⟨G, 0, none⟩), .int .i64 d] w (FMade w G B ar cr raw vars props out (fT raw props d p t)))
    : Calls Tryd.prog 31 #[.pointer (some ⟨G, 0, none⟩), .int .i64 ((d + 1 : Nat) : Int)] w (FMade w G B ar cr raw vars props out (.n2 (8 + kk % 2) 0 (fT raw props d (p + 1) t).1 (fT raw props d (fT raw props d (p + 1) t).2.1 (fT raw props d (p + 1) t).2.2).1, (fT raw props d (fT raw props d (p + 1) t).2.1 (fT raw props d (p + 1) t).2.2).2)) := by
  have TK := Lib.hid (take_any w G B ar cr raw p vars props t out h (by omega))
  have hBw : B ≤ w.heap.size := by have := World.block_lt_of_cell? _ _ h.c0; have := h.new; simp at *; omega
  have hr := hraw p
  have hz1 := fT_end raw props d (p + 1) (t)
  have hz2 := fT_size raw props d (p + 1) (t)
  have hz5 := Tm.flat_len (fT raw props d (p + 1) (t)).1
  have ih1 := fun w' out' g h1 h2 => ih w' (p + 1) (t) out' g h1 h2 (by omega)
  have hz6 := fT_cnt raw props d (p + 1) (t)
  have ih2 := fun w' out' g h1 h2 => ih w' (fT raw props d (p + 1) (t)).2.1 (fT raw props d (p + 1) (t)).2.2 out' g h1 h2 (by omega)
  generalize fT raw props d (p + 1) (t) = t1 at *
  generalize fT raw props d t1.2.1 t1.2.2 = t2 at *
  obtain ⟨tm1, p1, n1⟩ := t1
  obtain ⟨tm2, p2, n2⟩ := t2
  simp only at hz1 hz2 hz5 ih1 ih2
  have IH2 := Lib.hid ih2
  clear ih2
  have HZ1 := Lib.hid (show p1 ≤ 14 + d + 30 by omega)
  have HZ5 := Lib.hid (show tm1.flat.length ≤ 20 by omega)
  have IH1 := Lib.hid ih1
  clear ih1 hz1 hz2 hz5 hz6 ih
  generalize rawAt raw p = r at *
  obtain ⟨⟨r1, r2⟩, r3, r4⟩ := hr
  have HPK := Lib.hid (picked_any r.1 16 · r1 r2 (by omega) (by omega))
  have hkb := pk_bd r.1 16 (by omega)
  have e0 : ((d : Int) + 1 == 0) = false := by rw [beq_eq_false_iff_ne]; omega
  have e1 : (0 : Int) ≤ d := by omega
  have hpI : ¬ (12 : Int) < (p : Int) + 1 := by omega
  rw [hk0] at HPK hkb
  obtain ⟨hkb1, hkb2⟩ := hkb
  have hm5 : k0.tmod 5 = k0 % 5 := Int.tmod_eq_emod_of_nonneg hkb1
  have hs5 : (4 : Int) + k0 % 5 = kk := hsel
  have hw5 : IntKind.i64.wrap ((4 : Int) + k0 % 5) = kk := by rw [hs5]; exact IntWalk.i64_in _ (by omega)
  clear hk0 hsel
  have hl4 : ¬ kk < 4 := by omega
  have hl6 : ¬ kk < 6 := by omega
  have hl8 : (8 : Int) < k0 := by omega
  have htI : ((t : Int) == 0) = true := by rw [ht0]; rfl
  have HT0 := Lib.hid ht0
  clear ht0
  have hm2 : kk.tmod 2 = kk % 2 := Int.tmod_eq_emod_of_nonneg (by omega)
  have hw2 : IntKind.i64.wrap ((8 : Int) + kk % 2) = 8 + kk % 2 := IntWalk.i64_in _ (by omega)
  go_enter Tryd.func31, Tryd.ntmps31
  go_wp2_with fail
  refine TK.out.mono ?_
  rintro e w1 ⟨rfl, g1, b1⟩
  have hg1 := g1.ext ((Ext.refl w1).alloc (Nat.le_refl _) (Obj.cells #[.int .i64 r.1, .int .i64 r.2] 124))
  have hb2 : Below B w (w1.alloc (Obj.cells #[.int .i64 r.1, .int .i64 r.2] 124)) := b1.alloc (by have := b1.size; omega) _
  have q0 : (w1.alloc (Obj.cells #[.int .i64 r.1, .int .i64 r.2] 124)).cell? ⟨w1.heap.size, 0, none⟩ = some (.int .i64 r.1) := by simp [go_sem]
  have q1 : (w1.alloc (Obj.cells #[.int .i64 r.1, .int .i64 r.2] 124)).cell? ⟨w1.heap.size, 1, none⟩ = some (.int .i64 r.2) := by simp [go_sem]
  have c1 := hg1.c1
  have c3 := hg1.c3
  have c4 := hg1.c4
  have f4 := hg1.fz 4
  have HG1 := Lib.hid hg1
  have HB2 := Lib.hid hb2
  clear TK g1 b1 hg1 hb2
  go_wp2_with fail
  refine (HPK.out _).mono ?_
  rintro e w' ⟨rfl, rfl⟩
  go_wp2_with fail
  refine (put_op _ G B ar cr raw (p + 1) vars props t out _ _ HG1.out (by omega)).mono ?_
  rintro e w2 ⟨rfl, hg2, hb3⟩
  have HG2 := Lib.hid hg2
  have HB3 := Lib.hid (HB2.out.trans hb3)
  clear hg2 hb3
  go_wp2_with fail
  refine (IH1.out w2 _ HG2.out (by omega) (by simp; omega)).mono ?_
  rintro e w3 ⟨rfl, hg3, hb4⟩
  have HG3 := Lib.hid hg3
  have HB4 := Lib.hid (HB3.out.trans hb4)
  clear hg3 hb4 HG2 HB3
  go_wp2_with fail
  refine (IH2.out w3 _ HG3.out HZ1.out (by have := HZ5.out; simp at this ⊢; omega)).mono ?_
  rintro e w4 ⟨rfl, hg4, hb5⟩
  have HG4 := Lib.hid hg4
  have HB5 := Lib.hid (HB4.out.trans hb5)
  clear hg4 hb5 HG3 HB4
  go_wp2
  go_end0
  exact FMade.mk rfl HG4.out HB5.out rfl rfl (by simp [Tm.flat])

set_option maxRecDepth 100000 in
set_option maxHeartbeats 2000000 in
theorem formula_leafB (h : Gr w G B ar cr raw p vars props (t : Int) out) (hraw : RawF raw) (d : Nat) (hd : d ≤ 5) (hp12 : p < 12) (ho : out.length + 100 * (d + 1) ≤ 700) (hv : 0 < props) (hv2 : props ≤ 1000) (kk : Int) (hsel : pk (rawAt raw p).1 16 = kk) (hk4 : kk < 4)
    : Calls Tryd.prog 31 #[.pointer (some ⟨G, 0, none⟩), .int .i64 ((d + 1 : Nat) : Int)] w (FMade w G B ar cr raw vars props out (fLeaf (rawAt raw p) props, p + 1, t)) := by
  have TK := Lib.hid (take_any w G B ar cr raw p vars props t out h (by omega))
  have hBw : B ≤ w.heap.size := by have := World.block_lt_of_cell? _ _ h.c0; have := h.new; simp at *; omega
  have hr := hraw p
  generalize rawAt raw p = r at *
  obtain ⟨⟨r1, r2⟩, r3, r4⟩ := hr
  have HPK := Lib.hid (picked_any r.1 16 · r1 r2 (by omega) (by omega))
  have hkb := pk_bd r.1 16 (by omega)
  have e0 : ((d : Int) + 1 == 0) = false := by rw [beq_eq_false_iff_ne]; omega
  have e1 : (0 : Int) ≤ d := by omega
  have hpI : ¬ (12 : Int) < (p : Int) + 1 := by omega
  rw [hsel] at HPK hkb
  obtain ⟨hkb1, hkb2⟩ := hkb
  clear hsel
  have hl8 : ¬ (8 : Int) < kk := by omega
  have hfl : (fLeaf r props).flat = [(13, pk r.2 props)] := by unfold fLeaf; rw [if_pos hv]; rfl
  have HFL := Lib.hid hfl
  have HS := Lib.hid (fun wx : World => still_of (picked_any r.2 props wx r3 r4 hv (by omega)))
  clear hfl
  go_enter Tryd.func31, Tryd.ntmps31
  go_wp2_with fail
  refine TK.out.mono ?_
  rintro e w1 ⟨rfl, g1, b1⟩
  have hg1 := g1.ext ((Ext.refl w1).alloc (Nat.le_refl _) (Obj.cells #[.int .i64 r.1, .int .i64 r.2] 124))
  have hb2 : Below B w (w1.alloc (Obj.cells #[.int .i64 r.1, .int .i64 r.2] 124)) := b1.alloc (by have := b1.size; omega) _
  have q0 : (w1.alloc (Obj.cells #[.int .i64 r.1, .int .i64 r.2] 124)).cell? ⟨w1.heap.size, 0, none⟩ = some (.int .i64 r.1) := by simp [go_sem]
  have q1 : (w1.alloc (Obj.cells #[.int .i64 r.1, .int .i64 r.2] 124)).cell? ⟨w1.heap.size, 1, none⟩ = some (.int .i64 r.2) := by simp [go_sem]
  have c1 := hg1.c1
  have c3 := hg1.c3
  have c4 := hg1.c4
  have f4 := hg1.fz 4
  have HG1 := Lib.hid hg1
  have HB2 := Lib.hid hb2
  clear TK g1 b1 hg1 hb2
  go_wp2_with fail
  refine (HPK.out _).mono ?_
  rintro e w' ⟨rfl, rfl⟩
  go_wp2_with fail
  refine region_tail 8 (by kernel_rfl) (by kernel_rfl) ?_
  generalize (w1.alloc (Obj.cells #[.int .i64 r.1, .int .i64 r.2] 124)) = W at *
  have hg1' := HG1.out.ext (Below.drew (Ext.refl W))
  have hb1' := HB2.out.drew
  have q1' : W.drew.cell? ⟨w1.heap.size, 1, none⟩ = some (.int .i64 r.2) := q1
  have c3' : W.drew.cell? ⟨G, 3, none⟩ = some (.int .i64 props) := c3
  have HG1' := Lib.hid hg1'
  have HB1' := Lib.hid hb1'
  clear HG1 HB2 q0 q1 c1 c3 c4 f4 hg1' hb1'
  generalize W.drew = Wd at *
  simp only [List.take_succ_cons, List.take_zero, List.drop_succ_cons, List.drop_zero]
  iterate 7 still_step
  still_call (HS.out Wd)
  refine wpStill_nil ?_
  go_wp2_with fail
  refine (put_op _ G B ar cr raw (p + 1) vars props t out _ _ HG1'.out (by omega)).mono ?_
  rintro e w2 ⟨rfl, hg2, hb3⟩
  have HG2 := Lib.hid hg2
  have HB3 := Lib.hid (HB1'.out.trans hb3)
  clear hg2 hb3
  go_wp2
  go_end0
  exact FMade.mk rfl HG2.out HB3.out rfl rfl (by rw [HFL.out])

set_option maxRecDepth 100000 in
set_option maxHeartbeats 2000000 in
theorem formula_ah2 (h : Gr w G B ar cr raw p vars props (t : Int) out) (hraw : RawF raw) (d : Nat) (hd : d ≤ 5) (hp12 : p < 12) (ho : out.length + 100 * (d + 1) ≤ 700) (htb : t ≤ 1000) (kk : Int) (hsel : pk (rawAt raw p).1 16 = kk) (hk13 : 13 ≤ kk) (ht : t ≠ 0)
    (ih : ∀ (w : World) (p : Nat) (t : Nat) (out : List Op2), Gr w G B ar cr raw p vars props (t : Int) out → p ≤ 14 + d + 30 → out.length + 100 * d ≤ 700 → t ≤ 1000 → Calls Tryd.prog 31 #[.pointer (some ⟨G, 0, none⟩), .int .i64 d] w (FMade w G B ar cr raw vars props out (fT raw props d p t)))
    : Calls Tryd.prog 31 #[.pointer (some ⟨G, 0, none⟩), .int .i64 ((d + 1 : Nat) : Int)] w (FMade w G B ar cr raw vars props out (.n2 (15 + kk % 2) 0 (fT raw props d (p + 1) (t - 1)).1 (fT raw props d (fT raw props d (p + 1) (t - 1)).2.1 (fT raw props d (p + 1) (t - 1)).2.2).1, (fT raw props d (fT raw props d (p + 1) (t - 1)).2.1 (fT raw props d (p + 1) (t - 1)).2.2).2)) := by
  have TK := Lib.hid (take_any w G B ar cr raw p vars props t out h (by omega))
  have hBw : B ≤ w.heap.size := by have := World.block_lt_of_cell? _ _ h.c0; have := h.new; simp at *; omega
  have hr := hraw p
  have hz1 := fT_end raw props d (p + 1) (t - 1)
  have hz2 := fT_size raw props d (p + 1) (t - 1)
  have hz5 := Tm.flat_len (fT raw props d (p + 1) (t - 1)).1
  have ih1 := fun w' out' g h1 h2 => ih w' (p + 1) (t - 1) out' g h1 h2 (by omega)
  have hz6 := fT_cnt raw props d (p + 1) (t - 1)
  have ih2 := fun w' out' g h1 h2 => ih w' (fT raw props d (p + 1) (t - 1)).2.1 (fT raw props d (p + 1) (t - 1)).2.2 out' g h1 h2 (by omega)
  generalize fT raw props d (p + 1) (t - 1) = t1 at *
  generalize fT raw props d t1.2.1 t1.2.2 = t2 at *
  obtain ⟨tm1, p1, n1⟩ := t1
  obtain ⟨tm2, p2, n2⟩ := t2
  simp only at hz1 hz2 hz5 ih1 ih2
  have IH2 := Lib.hid ih2
  clear ih2
  have HZ1 := Lib.hid (show p1 ≤ 14 + d + 30 by omega)
  have HZ5 := Lib.hid (show tm1.flat.length ≤ 20 by omega)
  have IH1 := Lib.hid ih1
  clear ih1 hz1 hz2 hz5 hz6 ih
  generalize rawAt raw p = r at *
  obtain ⟨⟨r1, r2⟩, r3, r4⟩ := hr
  have HPK := Lib.hid (picked_any r.1 16 · r1 r2 (by omega) (by omega))
  have hkb := pk_bd r.1 16 (by omega)
  have e0 : ((d : Int) + 1 == 0) = false := by rw [beq_eq_false_iff_ne]; omega
  have e1 : (0 : Int) ≤ d := by omega
  have hpI : ¬ (12 : Int) < (p : Int) + 1 := by omega
  rw [hsel] at HPK hkb
  obtain ⟨hkb1, hkb2⟩ := hkb
  clear hsel
  have hl4 : ¬ kk < 4 := by omega
  have hl6 : ¬ kk < 6 := by omega
  have hl9 : ¬ kk < 9 := by omega
  have hl8 : (8 : Int) < kk := by omega
  have htI : ((t : Int) == 0) = false := by rw [beq_eq_false_iff_ne]; omega
  have htm : (t : Int) - 1 = ((t - 1 : Nat) : Int) := by omega
  have hwt : IntKind.i64.wrap ((t : Int) - 1) = ((t - 1 : Nat) : Int) := by rw [htm]; exact IntWalk.i64_in _ (by omega)
  have hl13 : ¬ kk < 13 := by omega
  have hm2 : kk.tmod 2 = kk % 2 := Int.tmod_eq_emod_of_nonneg (by omega)
  have hw2 : IntKind.i64.wrap ((15 : Int) + kk % 2) = 15 + kk % 2 := IntWalk.i64_in _ (by omega)
  go_enter Tryd.func31, Tryd.ntmps31
  go_wp2_with fail
  refine TK.out.mono ?_
  rintro e w1 ⟨rfl, g1, b1⟩
  have hg1 := g1.ext ((Ext.refl w1).alloc (Nat.le_refl _) (Obj.cells #[.int .i64 r.1, .int .i64 r.2] 124))
  have hb2 : Below B w (w1.alloc (Obj.cells #[.int .i64 r.1, .int .i64 r.2] 124)) := b1.alloc (by have := b1.size; omega) _
  have q0 : (w1.alloc (Obj.cells #[.int .i64 r.1, .int .i64 r.2] 124)).cell? ⟨w1.heap.size, 0, none⟩ = some (.int .i64 r.1) := by simp [go_sem]
  have q1 : (w1.alloc (Obj.cells #[.int .i64 r.1, .int .i64 r.2] 124)).cell? ⟨w1.heap.size, 1, none⟩ = some (.int .i64 r.2) := by simp [go_sem]
  have c1 := hg1.c1
  have c3 := hg1.c3
  have c4 := hg1.c4
  have f4 := hg1.fz 4
  have HG1 := Lib.hid hg1
  have HB2 := Lib.hid hb2
  clear TK g1 b1 hg1 hb2
  go_wp2_with fail
  refine (HPK.out _).mono ?_
  rintro e w' ⟨rfl, rfl⟩
  have hgt := HG1.out.tempo' ((t - 1 : Nat) : Int)
  have hbt := HB2.out.setCell (p := ⟨G, 4, none⟩) HG1.out.new (.int .i64 ((t - 1 : Nat) : Int))
  have HGT := Lib.hid hgt
  have HBT := Lib.hid hbt
  clear hgt hbt
  go_wp2_with fail
  refine (put_op _ G B ar cr raw (p + 1) vars props ((t - 1 : Nat) : Int) out _ _ HGT.out (by omega)).mono ?_
  rintro e w2 ⟨rfl, hg2, hb3⟩
  have HG2 := Lib.hid hg2
  have HB3 := Lib.hid (HBT.out.trans hb3)
  clear hg2 hb3
  go_wp2_with fail
  refine (IH1.out w2 _ HG2.out (by omega) (by simp; omega)).mono ?_
  rintro e w3 ⟨rfl, hg3, hb4⟩
  have HG3 := Lib.hid hg3
  have HB4 := Lib.hid (HB3.out.trans hb4)
  clear hg3 hb4 HG2 HB3
  go_wp2_with fail
  refine (IH2.out w3 _ HG3.out HZ1.out (by have := HZ5.out; simp at this ⊢; omega)).mono ?_
  rintro e w4 ⟨rfl, hg4, hb5⟩
  have HG4 := Lib.hid hg4
  have HB5 := Lib.hid (HB4.out.trans hb5)
  clear hg4 hb5 HG3 HB4
  go_wp2
  go_end0
  exact FMade.mk rfl HG4.out HB5.out rfl rfl (by simp [Tm.flat])

set_option maxRecDepth 100000 in
set_option maxHeartbeats 2000000 in
theorem formula_ah1 (h : Gr w G B ar cr raw p vars props (t : Int) out) (hraw : RawF raw) (d : Nat) (hd : d ≤ 5) (hp12 : p < 12) (ho : out.length + 100 * (d + 1) ≤ 700) (htb : t ≤ 1000) (kk : Int) (hsel : pk (rawAt raw p).1 16 = kk) (hk9 : 9 ≤ kk) (hk13 : kk < 13) (ht : t ≠ 0)
    (ih : ∀ (w : World) (p : Nat) (t : Nat) (out : List Op2), Gr w G B ar cr raw p vars props (t : Int) out → p ≤ 14 + d + 30 → out.length + 100 * d ≤ 700 → t ≤ 1000 → Calls Tryd.prog 31 #[.pointer (some ⟨G, 0, none⟩), .int .i64 d] w (FMade w G B ar cr raw vars props out (fT raw props d p t)))
    : Calls Tryd.prog 31 #[.pointer (some ⟨G, 0, none⟩), .int .i64 ((d + 1 : Nat) : Int)] w (FMade w G B ar cr raw vars props out (.n1 (aheadK kk) 0 (fT raw props d (p + 1) (t - 1)).1, (fT raw props d (p + 1) (t - 1)).2)) := by
  have TK := Lib.hid (take_any w G B ar cr raw p vars props t out h (by omega))
  have hBw : B ≤ w.heap.size := by have := World.block_lt_of_cell? _ _ h.c0; have := h.new; simp at *; omega
  have hr := hraw p
  have hz1 := fT_end raw props d (p + 1) (t - 1)
  have hz2 := fT_size raw props d (p + 1) (t - 1)
  have hz5 := Tm.flat_len (fT raw props d (p + 1) (t - 1)).1
  have ih1 := fun w' out' g h1 h2 => ih w' (p + 1) (t - 1) out' g h1 h2 (by omega)
  have hz6 := fT_cnt raw props d (p + 1) (t - 1)
  generalize fT raw props d (p + 1) (t - 1) = t1 at *
  obtain ⟨tm1, p1, n1⟩ := t1
  simp only at hz1 hz2 hz5 ih1
  have HZ1 := Lib.hid (show p1 ≤ 14 + d + 30 by omega)
  have HZ5 := Lib.hid (show tm1.flat.length ≤ 20 by omega)
  have IH1 := Lib.hid ih1
  clear ih1 hz1 hz2 hz5 hz6 ih
  generalize rawAt raw p = r at *
  obtain ⟨⟨r1, r2⟩, r3, r4⟩ := hr
  have HPK := Lib.hid (picked_any r.1 16 · r1 r2 (by omega) (by omega))
  have hkb := pk_bd r.1 16 (by omega)
  have e0 : ((d : Int) + 1 == 0) = false := by rw [beq_eq_false_iff_ne]; omega
  have e1 : (0 : Int) ≤ d := by omega
  have hpI : ¬ (12 : Int) < (p : Int) + 1 := by omega
  rw [hsel] at HPK hkb
  obtain ⟨hkb1, hkb2⟩ := hkb
  clear hsel
  have htI : ((t : Int) == 0) = false := by rw [beq_eq_false_iff_ne]; omega
  have htm : (t : Int) - 1 = ((t - 1 : Nat) : Int) := by omega
  have hwt : IntKind.i64.wrap ((t : Int) - 1) = ((t - 1 : Nat) : Int) := by rw [htm]; exact IntWalk.i64_in _ (by omega)
  have hkv : kk = 9 ∨ kk = 10 ∨ kk = 11 ∨ kk = 12 := by omega
  clear hk9 hk13 hkb1 hkb2
  rcases hkv with rfl | rfl | rfl | rfl
  all_goals
    go_enter Tryd.func31, Tryd.ntmps31
    go_wp2_with fail
    refine TK.out.mono ?_
    rintro e w1 ⟨rfl, g1, b1⟩
    have hg1 := g1.ext ((Ext.refl w1).alloc (Nat.le_refl _) (Obj.cells #[.int .i64 r.1, .int .i64 r.2] 124))
    have hb2 : Below B w (w1.alloc (Obj.cells #[.int .i64 r.1, .int .i64 r.2] 124)) := b1.alloc (by have := b1.size; omega) _
    have q0 : (w1.alloc (Obj.cells #[.int .i64 r.1, .int .i64 r.2] 124)).cell? ⟨w1.heap.size, 0, none⟩ = some (.int .i64 r.1) := by simp [go_sem]
    have q1 : (w1.alloc (Obj.cells #[.int .i64 r.1, .int .i64 r.2] 124)).cell? ⟨w1.heap.size, 1, none⟩ = some (.int .i64 r.2) := by simp [go_sem]
    have c1 := hg1.c1
    have c3 := hg1.c3
    have c4 := hg1.c4
    have f4 := hg1.fz 4
    have HG1 := Lib.hid hg1
    have HB2 := Lib.hid hb2
    clear TK g1 b1 hg1 hb2
    go_wp2_with fail
    refine (HPK.out _).mono ?_
    rintro e w' ⟨rfl, rfl⟩
    have hgt := HG1.out.tempo' ((t - 1 : Nat) : Int)
    have hbt := HB2.out.setCell (p := ⟨G, 4, none⟩) HG1.out.new (.int .i64 ((t - 1 : Nat) : Int))
    have HGT := Lib.hid hgt
    have HBT := Lib.hid hbt
    clear hgt hbt
    go_wp2_with fail
    refine (put_op _ G B ar cr raw (p + 1) vars props ((t - 1 : Nat) : Int) out _ _ (HGT.out.ext ((Ext.refl _).alloc (Nat.le_refl _) _)) (by omega)).mono ?_
    rintro e w2 ⟨rfl, hg2, hb3⟩
    have HG2 := Lib.hid hg2
    have HB3 := Lib.hid ((HBT.out.alloc (by have := HBT.out.size; omega) _).trans hb3)
    clear hg2 hb3
    go_wp2_with fail
    refine (IH1.out w2 _ HG2.out (by omega) (by simp; omega)).mono ?_
    rintro e w3 ⟨rfl, hg3, hb4⟩
    have HG3 := Lib.hid hg3
    have HB4 := Lib.hid (HB3.out.trans hb4)
    clear hg3 hb4 HG2 HB3
    go_wp2
    go_end0
    exact FMade.mk rfl HG3.out HB4.out rfl rfl (by simp [Tm.flat, aheadK])

end

end Go.Proofs.YtbmimdnpchldlaaDoor

namespace Go.Proofs.YtbmimdnpchldlaaDoor
open Go.RowKit

theorem formula_any (G B : Nat) (ar : Option Addr) (cr : Nat) (raw : List Op2) (vars props : Int) (hraw : RawF raw) (hv : 0 < props) (hv2 : props ≤ 1000) :
    ∀ (d : Nat), d ≤ 6 → ∀ (w : World) (p t : Nat) (out : List Op2), Gr w G B ar cr raw p vars props (t : Int) out → p ≤ 14 + d + 30 → out.length + 100 * d ≤ 700 → t ≤ 1000 →
    Calls Tryd.prog 31 #[.pointer (some ⟨G, 0, none⟩), .int .i64 d] w (FMade w G B ar cr raw vars props out (fT raw props d p t)) := by
  intro d
  induction d with
  | zero =>
    intro _ w p t out h hp ho _
    exact formula_leaf w G B ar cr raw p vars props t out h hraw (by omega) (by omega) hv hv2 0 (.inl rfl)
  | succ d ih =>
    intro hd w p t out h hp ho ht
    have ih' := ih (by omega)
    have hb := fKind_bd (rawAt raw p) (d + 1) p t
    unfold fT
    by_cases hp12 : p < 12
    · have hk0 : fKind0 (rawAt raw p) (d + 1) p = pk (rawAt raw p).1 16 := by unfold fKind0; rw [if_neg (by omega)]
      by_cases hs : 8 < fKind0 (rawAt raw p) (d + 1) p ∧ t = 0
      · have hk : fKind (rawAt raw p) (d + 1) p t = 4 + fKind0 (rawAt raw p) (d + 1) p % 5 := by unfold fKind; rw [if_pos hs]
        rw [if_neg (by omega)]
        rw [hk0] at hs hk
        split
        · exact formula_nots w G B ar cr raw p vars props t out h hraw d (by omega) hp12 ho ht _ _ rfl hs.1 hs.2 hk.symm (by omega) (by omega) ih'
        · rw [if_pos (by omega)]
          exact formula_bins w G B ar cr raw p vars props t out h hraw d (by omega) hp12 ho ht _ _ rfl hs.1 hs.2 hk.symm (by omega) (by omega) ih'
      · have hk : fKind (rawAt raw p) (d + 1) p t = fKind0 (rawAt raw p) (d + 1) p := by unfold fKind; rw [if_neg hs]
        rw [hk0] at hk
        have ht0 : ¬ fKind (rawAt raw p) (d + 1) p t < 9 → t ≠ 0 := fun h e => h (hb.2.2.2 e)
        split
        · exact formula_leafB w G B ar cr raw p vars props t out h hraw d (by omega) hp12 ho hv hv2 _ hk.symm (by omega)
        · split
          · exact formula_not w G B ar cr raw p vars props t out h hraw d (by omega) hp12 ho ht _ hk.symm (by omega) (by omega) ih'
          · split
            · exact formula_bin w G B ar cr raw p vars props t out h hraw d (by omega) hp12 ho ht _ hk.symm (by omega) (by omega) ih'
            · rename_i h9
              split
              · exact formula_ah1 w G B ar cr raw p vars props t out h hraw d (by omega) hp12 ho ht _ hk.symm (by omega) (by omega) (ht0 h9) ih'
              · exact formula_ah2 w G B ar cr raw p vars props t out h hraw d (by omega) hp12 ho ht _ hk.symm (by omega) (ht0 h9) ih'
    · rw [if_pos (by omega)]
      exact formula_leaf w G B ar cr raw p vars props t out h hraw (by omega) (by omega) hv hv2 ((d + 1 : Nat) : Int) (.inr (by omega))

/-- The formulas that the laws draw. -/
def forO (raw : List Op2) (props : Int) (t : Nat) : Tm := (fT raw props 4 0 t).1

set_option maxRecDepth 100000 in
set_option maxHeartbeats 1000000 in
theorem mkFormula (v : Value) (raw : List Op2) (props : Int) (t : Nat) (w : World) (h : Ops w v raw) (hraw : RawF raw) (hv : 0 < props) (hv2 : props ≤ 1000) (ht : t ≤ 1000) :
    Calls Tryd.prog 15 #[v, .int .i64 props, .int .i64 (t : Int)] w fun e w' => ∃ v', e = .returned v' ∧ w'.ownsRow w.heap.size 47 2 v' (forO raw props t).flat.length ((forO raw props t).flat.flatMap opc) ∧ Ext w w' := by
  obtain ⟨ar, cr, rfl, hr⟩ := h
  have hE : Ext w (w.alloc (Obj.cells #[.slice ar raw.length cr, .int .i64 0, .int .i64 0, .int .i64 props, .int .i64 (t : Int), .slice none 0 0] 101)) := (Ext.refl w).alloc (Nat.le_refl _) _
  have hg : Gr (w.alloc (Obj.cells #[.slice ar raw.length cr, .int .i64 0, .int .i64 0, .int .i64 props, .int .i64 (t : Int), .slice none 0 0] 101)) w.heap.size w.heap.size ar cr raw 0 0 props (t : Int) [] :=
    ⟨by simp [go_sem], by simp [go_sem], by simp [go_sem], by simp [go_sem], by simp [go_sem], ⟨none, 0, by simp [go_sem], World.ownsRow_nil _ _ _ _, by simp [Value.ownBlock]⟩, fun i => by simp [go_sem], hr.ext hE,
      fun q hq hx => by subst hq; exact hr.blk (by rw [opc_len]; omega), Nat.le_refl _⟩
  have HC := Lib.hid (formula_any w.heap.size w.heap.size ar cr raw 0 props hraw hv hv2 4 (by omega) _ 0 t [] hg (by omega) (by simp) ht)
  have hbel := hE
  clear hr
  go_enter Tryd.func15, Tryd.ntmps15
  go_wp2_with fail
  refine HC.out.mono ?_
  rintro e w2 ⟨rfl, g2, b2⟩
  obtain ⟨ao, co, c5, h6, _⟩ := g2.c5
  have H6 := Lib.hid h6
  have HE2 : Hid (Ext w w2) := Below.trans hE b2
  clear h6 g2 b2 hg hE hbel
  go_wp2
  go_ret
  exact ⟨_, rfl, H6.out, HE2.out⟩

end Go.Proofs.YtbmimdnpchldlaaDoor

namespace Go.Proofs.YtbmimdnpchldlaaDoor
open Go.RowKit

set_option maxRecDepth 100000 in
theorem raw_for {W : World} {v : Value} (h : Cells Tryd.prog W 26 [v]) : ∃ raw, Ops W v raw ∧ RawF raw := by
  obtain ⟨a, cap, xss, hv, hr, hx⟩ := h.slice (sz := 2) Tryd.underlying26 (by kernel_rfl)
  have each : ∀ xs ∈ xss, ∃ o : { o : Op2 // I64 o.1 ∧ I64 o.2 }, xs = opc o.val := by
    intro xs hxs
    obtain ⟨hl, hc⟩ := hx xs hxs
    obtain ⟨_, hf⟩ := hc.field Tryd.underlying124
    match xs, hl with
    | [x, y], _ =>
      have c1 : Tryd.prog.cellsOf 3 = 1 := by kernel_rfl
      have f0 : Cells Tryd.prog W 3 [x] := by have := hf 0 _ rfl; simpa [c1] using this
      have f1 : Cells Tryd.prog W 3 [y] := by have := hf 1 _ rfl; simpa [c1] using this
      obtain ⟨m, e0, i0⟩ := Cells.i64 Tryd.underlying3 f0
      obtain ⟨n, e1, i1⟩ := Cells.i64 Tryd.underlying3 f1
      simp at e0 e1
      subst e0; subst e1
      exact ⟨⟨(m, n), i0, i1⟩, rfl⟩
  have build : ∀ yss : List (List Value), (∀ xs ∈ yss, ∃ o : { o : Op2 // I64 o.1 ∧ I64 o.2 }, xs = opc o.val) → ∃ raw : List Op2, yss.length = raw.length ∧ yss.flatten = raw.flatMap opc ∧ ∀ o ∈ raw, I64 o.1 ∧ I64 o.2 := by
    intro yss
    induction yss with
    | nil => intro _; exact ⟨[], rfl, rfl, by simp⟩
    | cons ys yss ih =>
      intro h
      obtain ⟨o, rfl⟩ := h ys (by simp)
      obtain ⟨raw, h1, h2, h3⟩ := ih (fun xs hxs => h xs (by simp [hxs]))
      refine ⟨o.val :: raw, by simp [h1], by simp [h2], ?_⟩
      intro q hq
      rcases List.mem_cons.1 hq with rfl | hq
      · exact o.property
      · exact h3 q hq
  obtain ⟨raw, h1, h2, h3⟩ := build xss each
  simp only [List.cons.injEq, and_true] at hv
  rw [h1, h2] at hr
  refine ⟨raw, ⟨a, cap, by rw [hv, h1], hr⟩, fun p => ?_⟩
  unfold rawAt
  rw [List.getD_eq_getElem?_getD]
  by_cases hp : p < raw.length
  · rw [List.getElem?_eq_getElem hp]; exact h3 _ (by simp)
  · rw [List.getElem?_eq_none (by omega)]; simp [I64]

end Go.Proofs.YtbmimdnpchldlaaDoor

namespace Go.Proofs.YtbmimdnpchldlaaDoor

/-- The moment behind one: of n moments, the loop begins at back. -/
def nxt (n back i : Nat) : Nat := if i + 1 < n then i + 1 else back
def nxtN (n back : Nat) : Nat → Nat → Nat
  | 0, i => i
  | j + 1, i => nxtN n back j (nxt n back i)
theorem nxt_lt {n back i : Nat} (h : back < n) : nxt n back i < n := by unfold nxt; split <;> omega
theorem nxtN_lt {n back : Nat} (h : back < n) : ∀ j i, i < n → nxtN n back j i < n
  | 0, _, hi => hi
  | j + 1, _, _ => nxtN_lt h j _ (nxt_lt h)
theorem nxtN_add (n back : Nat) : ∀ j k i, nxtN n back (j + k) i = nxtN n back k (nxtN n back j i)
  | 0, k, i => by rw [Nat.zero_add]; rfl
  | j + 1, k, i => by rw [show j + 1 + k = (j + k) + 1 by omega]; exact nxtN_add n back j k (nxt n back i)

/-- A word: its letters (the stem's, then the loop's), and where the loop begins. -/
structure Wd where
  ls : List (List Bool)
  back : Nat
def Wd.n (W : Wd) : Nat := W.ls.length

/-- One holds till the other does; one holds till the other lets it go. -/
def UntilP (n back : Nat) (a b : Nat → Prop) (i : Nat) : Prop := ∃ j, b (nxtN n back j i) ∧ ∀ m, m < j → a (nxtN n back m i)
def RelP (n back : Nat) (a b : Nat → Prop) (i : Nat) : Prop := ∀ j, b (nxtN n back j i) ∨ ∃ m, m < j ∧ a (nxtN n back m i)

/-- What holds of a word, at a moment. -/
def Sat (W : Wd) : Tm → Nat → Prop
  | .n0 k v, i => if k = 13 then ((W.ls.getD i []).getD v.toNat false) = true else k = 11
  | .n1 k _ a, i =>
    if k = 10 then ¬ Sat W a i
    else if k = 14 then Sat W a (nxt W.n W.back i)
    else if k = 17 then UntilP W.n W.back (fun _ => True) (Sat W a) i
    else RelP W.n W.back (fun _ => False) (Sat W a) i
  | .n2 k _ a b, i =>
    if k = 8 then Sat W a i ∧ Sat W b i
    else if k = 9 then Sat W a i ∨ Sat W b i
    else if k = 15 then UntilP W.n W.back (Sat W a) (Sat W b) i
    else RelP W.n W.back (Sat W a) (Sat W b) i

/-- The laws of what looks ahead, moment by moment. -/
theorem until_iff (n back : Nat) (a b : Nat → Prop) (i : Nat) : UntilP n back a b i ↔ b i ∨ (a i ∧ UntilP n back a b (nxt n back i)) := by
  constructor
  · rintro ⟨j, h1, h2⟩
    cases j with
    | zero => exact .inl h1
    | succ j => exact .inr ⟨h2 0 (by omega), j, h1, fun m hm => h2 (m + 1) (by omega)⟩
  · rintro (h | ⟨h, j, h1, h2⟩)
    · exact ⟨0, h, fun m hm => by omega⟩
    · refine ⟨j + 1, h1, fun m hm => ?_⟩
      cases m with
      | zero => exact h
      | succ m => exact h2 m (by omega)
theorem rel_iff (n back : Nat) (a b : Nat → Prop) (i : Nat) : RelP n back a b i ↔ b i ∧ (a i ∨ RelP n back a b (nxt n back i)) := by
  constructor
  · intro h
    refine ⟨by rcases h 0 with h | ⟨m, hm, _⟩; exact h; omega, ?_⟩
    by_cases ha : a i
    · exact .inl ha
    · refine .inr fun j => ?_
      rcases h (j + 1) with h | ⟨m, hm, h⟩
      · exact .inl h
      · cases m with
        | zero => exact absurd h ha
        | succ m => exact .inr ⟨m, by omega, h⟩
  · rintro ⟨h1, h2⟩ j
    cases j with
    | zero => exact .inl h1
    | succ j =>
      rcases h2 with h2 | h2
      · exact .inr ⟨0, by omega, h2⟩
      · rcases h2 j with h | ⟨m, hm, h⟩
        · exact .inl h
        · exact .inr ⟨m + 1, by omega, h⟩
/-- Release is the turned Until. -/
theorem rel_not (n back : Nat) (a b : Nat → Prop) (i : Nat) : RelP n back a b i ↔ ¬ UntilP n back (fun x => ¬ a x) (fun x => ¬ b x) i := by
  constructor
  · rintro h ⟨j, h1, h2⟩
    rcases h j with h | ⟨m, hm, h⟩
    · exact h1 h
    · exact h2 m hm h
  · intro h j
    by_cases hb : b (nxtN n back j i)
    · exact .inl hb
    · right
      by_cases hx : ∃ m, m < j ∧ a (nxtN n back m i)
      · exact hx
      · exact absurd ⟨j, hb, fun m hm ha => hx ⟨m, hm, ha⟩⟩ h

/-- A row that keeps the law of an Until from below is the Until: each true cell has its reason, and nothing more can be turned. -/
theorem until_row {n back : Nat} {a b r : Nat → Prop} (hback : back < n) (h1 : ∀ i, i < n → r i → UntilP n back a b i) (h2 : ∀ i, i < n → (b i ∨ (a i ∧ r (nxt n back i))) → r i) : ∀ i, i < n → (r i ↔ UntilP n back a b i) := by
  intro i hi
  refine ⟨h1 i hi, ?_⟩
  rintro ⟨j, hb, ha⟩
  induction j generalizing i with
  | zero => exact h2 i hi (.inl hb)
  | succ j ih => exact h2 i hi (.inr ⟨ha 0 (by omega), ih _ (nxt_lt hback) hb fun m hm => ha (m + 1) (by omega)⟩)
theorem rel_row {n back : Nat} {a b r : Nat → Prop} (hback : back < n) (h1 : ∀ i, i < n → RelP n back a b i → r i) (h2 : ∀ i, i < n → r i → (b i ∧ (a i ∨ r (nxt n back i)))) : ∀ i, i < n → (r i ↔ RelP n back a b i) := by
  intro i hi
  refine ⟨fun h j => ?_, h1 i hi⟩
  induction j generalizing i with
  | zero => exact .inl (h2 i hi h).1
  | succ j ih =>
    obtain ⟨_, h3 | h3⟩ := h2 i hi h
    · exact .inr ⟨0, by omega, h3⟩
    · rcases ih _ (nxt_lt hback) h3 with h | ⟨m, hm, h⟩
      · exact .inl h
      · exact .inr ⟨m + 1, by omega, h⟩

end Go.Proofs.YtbmimdnpchldlaaDoor

namespace Go.Proofs.YtbmimdnpchldlaaDoor

def updB (r : Nat → Bool) (i : Nat) (v : Bool) : Nat → Bool := fun x => if x = i then v else r x

/-- What holds while a row is settled: what was turned has its reason, and rightly so. -/
structure Sets (n back : Nat) (bg : Bool) (law : Nat → Bool → Bool) (fix : Nat → Prop) (r : Nat → Bool) : Prop where
  sup : ∀ i, i < n → r i = !bg → law i (r (nxt n back i)) = !bg
  snd : ∀ i, i < n → r i = !bg → fix i

theorem Sets.begin (n back : Nat) (bg : Bool) (law : Nat → Bool → Bool) (fix : Nat → Prop) : Sets n back bg law fix fun _ => bg :=
  ⟨fun _ _ h => absurd (show bg = !bg from h) (by cases bg <;> simp), fun _ _ h => absurd (show bg = !bg from h) (by cases bg <;> simp)⟩

/-- Where the law says otherwise the cell still is what it was at the beginning. -/
theorem Sets.old {n back : Nat} {bg : Bool} {law : Nat → Bool → Bool} {fix : Nat → Prop} {r : Nat → Bool} (h : Sets n back bg law fix r) {i : Nat} (hi : i < n) (hv : law i (r (nxt n back i)) ≠ r i) : r i = bg ∧ law i (r (nxt n back i)) = !bg := by
  have h1 := h.sup i hi
  cases hr : r i <;> cases bg <;> cases hl : law i (r (nxt n back i)) <;> simp_all

theorem Sets.turn {n back : Nat} {bg : Bool} {law : Nat → Bool → Bool} {fix : Nat → Prop} {r : Nat → Bool} (h : Sets n back bg law fix r) (hback : back < n) (hm : ∀ i, law i bg = !bg → law i (!bg) = !bg)
    (hs : ∀ i x, i < n → law i x = !bg → (x = !bg → fix (nxt n back i)) → fix i) {i : Nat} (hi : i < n) (hv : law i (r (nxt n back i)) = !bg) : Sets n back bg law fix (updB r i (!bg)) := by
  have hup : ∀ j, law j (r (nxt n back j)) = !bg → law j (updB r i (!bg) (nxt n back j)) = !bg := fun j hj => by
    unfold updB
    split
    · cases hx : r (nxt n back j) <;> rw [hx] at hj <;> cases bg <;> first | exact hj | exact hm j hj
    · exact hj
  refine ⟨fun j hj hr => ?_, fun j hj hr => ?_⟩
  · by_cases e : j = i
    · subst e; exact hup j hv
    · rw [updB, if_neg e] at hr
      exact hup j (h.sup j hj hr)
  · by_cases e : j = i
    · subst e
      exact hs j _ hj hv fun hx => h.snd _ (nxt_lt hback) hx
    · rw [updB, if_neg e] at hr
      exact h.snd j hj hr

/-- So many cells still are what they were at the beginning. -/
def cntB (n : Nat) (bg : Bool) (r : Nat → Bool) : Nat := ((List.range n).filter fun i => r i == bg).length
theorem cntB_turn {bg : Bool} {r : Nat → Bool} {i : Nat} (hr : r i = bg) : ∀ n, i < n → cntB n bg (updB r i (!bg)) + 1 = cntB n bg r
  | 0, h => by omega
  | n + 1, h => by
    unfold cntB
    rw [List.range_succ, List.filter_append, List.filter_append, List.length_append, List.length_append]
    by_cases e : i = n
    · subst e
      have h1 : (List.range i).filter (fun j => updB r i (!bg) j == bg) = (List.range i).filter fun j => r j == bg := List.filter_congr fun j hj => by
        have := List.mem_range.1 hj
        rw [updB, if_neg (by omega)]
      rw [h1]
      have h2 : (updB r i (!bg) i == bg) = false := by rw [updB, if_pos rfl]; cases bg <;> rfl
      have h3 : (r i == bg) = true := by rw [hr]; cases bg <;> rfl
      simp [h2, h3]
    · have ih := cntB_turn (bg := bg) hr n (by omega)
      unfold cntB at ih
      have h2 : (updB r i (!bg) n == bg) = (r n == bg) := by rw [updB, if_neg (fun x => e x.symm)]
      simp only [List.filter_cons, List.filter_nil, h2]
      omega

def lawU (a b : Nat → Bool) (i : Nat) (x : Bool) : Bool := b i || (a i && x)
def lawR (a b : Nat → Bool) (i : Nat) (x : Bool) : Bool := b i && (a i || x)
theorem lawU_mono (a b : Nat → Bool) (i : Nat) (h : lawU a b i false = !false) : lawU a b i (!false) = !false := by
  revert h; unfold lawU; cases a i <;> cases b i <;> decide
theorem lawR_mono (a b : Nat → Bool) (i : Nat) (h : lawR a b i true = !true) : lawR a b i (!true) = !true := by
  revert h; unfold lawR; cases a i <;> cases b i <;> decide
theorem lawU_step {n back : Nat} (a b : Nat → Bool) (i : Nat) (x : Bool) (_hi : i < n) (h : lawU a b i x = !false) (hx : x = !false → UntilP n back (fun j => a j = true) (fun j => b j = true) (nxt n back i)) : UntilP n back (fun j => a j = true) (fun j => b j = true) i := by
  rw [until_iff]
  unfold lawU at h
  simp only [Bool.not_false, Bool.or_eq_true, Bool.and_eq_true] at h hx
  rcases h with h | ⟨h1, h2⟩
  · exact .inl h
  · exact .inr ⟨h1, hx h2⟩
theorem lawR_step {n back : Nat} (a b : Nat → Bool) (i : Nat) (x : Bool) (_hi : i < n) (h : lawR a b i x = !true) (hx : x = !true → ¬ RelP n back (fun j => a j = true) (fun j => b j = true) (nxt n back i)) : ¬ RelP n back (fun j => a j = true) (fun j => b j = true) i := by
  rw [rel_iff]
  unfold lawR at h
  simp only [Bool.not_true, Bool.and_eq_false_iff, Bool.or_eq_false_iff] at h hx
  rintro ⟨h1, h2⟩
  rcases h with h | ⟨h3, h4⟩
  · rw [h] at h1; cases h1
  · rcases h2 with h2 | h2
    · rw [h3] at h2; cases h2
    · exact hx h4 h2
/-- A row at which nothing changes any more is the Until. -/
theorem settled_until {n back : Nat} {a b r : Nat → Bool} (hback : back < n) (h : Sets n back false (lawU a b) (UntilP n back (fun j => a j = true) (fun j => b j = true)) r) (hs : ∀ i, i < n → lawU a b i (r (nxt n back i)) = r i) :
    ∀ i, i < n → (r i = true ↔ UntilP n back (fun j => a j = true) (fun j => b j = true) i) :=
  until_row (r := fun i => r i = true) hback (fun i hi hr => h.snd i hi hr) fun i hi hx => by
    rw [← hs i hi]
    unfold lawU
    rcases hx with hx | ⟨h1, h2⟩
    · rw [hx]; rfl
    · rw [h1, h2]; simp
theorem settled_rel {n back : Nat} {a b r : Nat → Bool} (hback : back < n) (h : Sets n back true (lawR a b) (fun i => ¬ RelP n back (fun j => a j = true) (fun j => b j = true) i) r) (hs : ∀ i, i < n → lawR a b i (r (nxt n back i)) = r i) :
    ∀ i, i < n → (r i = true ↔ RelP n back (fun j => a j = true) (fun j => b j = true) i) :=
  rel_row (r := fun i => r i = true) hback (fun i hi hr => by
    cases hx : r i
    · exact absurd hr (h.snd i hi hx)
    · rfl) fun i hi hr => by
    rw [← hs i hi] at hr
    unfold lawR at hr
    simpa using hr

end Go.Proofs.YtbmimdnpchldlaaDoor

namespace Go.Proofs.YtbmimdnpchldlaaDoor

def Tm.kd : Tm → Int
  | .n0 k _ => k
  | .n1 k _ _ => k
  | .n2 k _ _ _ => k
def Tm.vl : Tm → Int
  | .n0 _ v => v
  | .n1 _ v _ => v
  | .n2 _ v _ _ => v
def subs : Tm → List Tm
  | .n0 k v => [.n0 k v]
  | .n1 k v a => .n1 k v a :: subs a
  | .n2 k v a b => .n2 k v a b :: (subs a ++ subs b)
theorem subs_len (t : Tm) : (subs t).length = t.size := by
  induction t with
  | n0 => rfl
  | n1 k v a ih => simp [subs, Tm.size, ih]
  | n2 k v a b ih1 ih2 => simp [subs, Tm.size, ih1, ih2]
theorem subs_head (t : Tm) : (subs t)[0]? = some t := by cases t <;> rfl

/-- The term that begins at a place, and where its parts begin. -/
structure SubAt (l : List Op2) (es : List Int) (S : List Tm) (i : Nat) (s : Tm) : Prop where
  op : l[i]? = some (s.kd, s.vl)
  sub : S[i]? = some s
  ok : s.ok
  one : ∀ k v a, s = .n1 k v a → S[i + 1]? = some a
  two : ∀ k v a b, s = .n2 k v a b → S[i + 1]? = some a ∧ es[i + 1]? = some (secAt es i : Int) ∧ i + 1 < secAt es i ∧ S[secAt es i]? = some b

theorem subs_law (t : Tm) (ht : t.ok) : ∀ (pre post : List Op2) (ea eb : List Int) (sa sb : List Tm), ea.length = pre.length → sa.length = pre.length →
    ∀ i, i < t.size → ∃ s, SubAt (pre ++ t.flat ++ post) (ea ++ t.ends pre.length ++ eb) (sa ++ subs t ++ sb) (pre.length + i) s := by
  induction t with
  | n0 k v =>
    intro pre post ea eb sa sb he hs i hi
    simp only [Tm.size] at hi
    obtain rfl : i = 0 := by omega
    refine ⟨.n0 k v, by simp [Tm.flat, Tm.kd, Tm.vl], by rw [← hs]; simp [subs], ht, fun _ _ _ h => (by cases h), fun _ _ _ _ h => (by cases h)⟩
  | n1 k v a ih =>
    intro pre post ea eb sa sb he hs i hi
    obtain ⟨h1, h2, h3, h4⟩ := ht
    have e1 : pre ++ Tm.flat (.n1 k v a) ++ post = (pre ++ [(k, v)]) ++ a.flat ++ post := by simp [Tm.flat]
    have e2 : ea ++ Tm.ends (.n1 k v a) pre.length ++ eb = (ea ++ [((pre.length + 1 + a.size : Nat) : Int)]) ++ a.ends (pre ++ [(k, v)]).length ++ eb := by simp [Tm.ends]
    have e3 : sa ++ subs (.n1 k v a) ++ sb = (sa ++ [Tm.n1 k v a]) ++ subs a ++ sb := by simp [subs]
    by_cases hi0 : i = 0
    · subst hi0
      refine ⟨.n1 k v a, by simp [Tm.flat, Tm.kd, Tm.vl], by rw [← hs]; simp [subs], ⟨h1, h2, h3, h4⟩, fun _ _ _ h => ?_, fun _ _ _ _ h => (by cases h)⟩
      cases h
      rw [e3, List.append_assoc, List.getElem?_append_right (by simp [hs]), List.getElem?_append_left (by rw [subs_len]; simp [hs]; exact a.size_pos)]
      simpa [hs] using subs_head a
    · have := ih h4 (pre ++ [(k, v)]) post (ea ++ [((pre.length + 1 + a.size : Nat) : Int)]) eb (sa ++ [Tm.n1 k v a]) sb (by simp [he]) (by simp [hs]) (i - 1) (by simp only [Tm.size] at hi; omega)
      rw [← e1, ← e2, ← e3, show (pre ++ [(k, v)]).length + (i - 1) = pre.length + i by simp; omega] at this
      exact this
  | n2 k v x y ih1 ih2 =>
    intro pre post ea eb sa sb he hs i hi
    obtain ⟨h1, h2, h3, h4, h5⟩ := ht
    have hfx := x.flat_len
    have hex := x.ends_len (pre.length + 1)
    have hsx := x.size_pos
    have hsy := y.size_pos
    have hlx := subs_len x
    have hly := subs_len y
    obtain ⟨E0, hE0⟩ : ∃ e, e = ((pre.length + 1 + x.size + y.size : Nat) : Int) := ⟨_, rfl⟩
    have e1 : pre ++ Tm.flat (.n2 k v x y) ++ post = (pre ++ [(k, v)]) ++ x.flat ++ (y.flat ++ post) := by simp [Tm.flat]
    have e1' : pre ++ Tm.flat (.n2 k v x y) ++ post = (pre ++ [(k, v)] ++ x.flat) ++ y.flat ++ post := by simp [Tm.flat]
    have e2 : ea ++ Tm.ends (.n2 k v x y) pre.length ++ eb = (ea ++ [E0]) ++ x.ends (pre ++ [(k, v)]).length ++ (y.ends (pre.length + 1 + x.size) ++ eb) := by simp [Tm.ends, hE0]
    have e2' : ea ++ Tm.ends (.n2 k v x y) pre.length ++ eb = (ea ++ [E0] ++ x.ends (pre.length + 1)) ++ y.ends (pre ++ [(k, v)] ++ x.flat).length ++ eb := by
      rw [show (pre ++ [(k, v)] ++ x.flat).length = pre.length + 1 + x.size by simp [hfx]; omega]
      simp [Tm.ends, hE0]
    have e3 : sa ++ subs (.n2 k v x y) ++ sb = (sa ++ [Tm.n2 k v x y]) ++ subs x ++ (subs y ++ sb) := by simp [subs]
    have e3' : sa ++ subs (.n2 k v x y) ++ sb = (sa ++ [Tm.n2 k v x y] ++ subs x) ++ subs y ++ sb := by simp [subs]
    by_cases hi0 : i = 0
    · subst hi0
      have hes : ((ea ++ [E0]) ++ x.ends (pre ++ [(k, v)]).length ++ (y.ends (pre.length + 1 + x.size) ++ eb))[pre.length + 0 + 1]? = some (((pre.length + 1 + x.size : Nat)) : Int) := by
        have hz := ends_zero x (pre.length + 1) (by rw [hex]; exact hsx)
        have hl2 : (pre ++ [(k, v)]).length = pre.length + 1 := by simp
        rw [hl2, List.append_assoc, List.getElem?_append_right (by simp [he]), List.getElem?_append_left (by rw [hex]; simp [he]; exact hsx)]
        rw [show pre.length + 0 + 1 - (ea ++ [E0]).length = 0 by simp [he], List.getElem?_eq_getElem (by rw [hex]; exact hsx), hz]
      have hsec : secAt ((ea ++ [E0]) ++ x.ends (pre ++ [(k, v)]).length ++ (y.ends (pre.length + 1 + x.size) ++ eb)) (pre.length + 0) = pre.length + 1 + x.size := by
        unfold secAt
        rw [List.getD, hes]
        show ((pre.length + 1 + x.size : Nat) : Int).toNat = _
        omega
      refine ⟨.n2 k v x y, by simp [Tm.flat, Tm.kd, Tm.vl], by rw [← hs]; simp [subs], ⟨h1, h2, h3, h4, h5⟩, fun _ _ _ h => (by cases h), fun _ _ _ _ h => ?_⟩
      cases h
      rw [e2, hsec]
      refine ⟨?_, hes, by omega, ?_⟩
      · rw [e3, List.append_assoc, List.getElem?_append_right (by simp [hs]), List.getElem?_append_left (by rw [hlx]; simp [hs]; exact hsx)]
        simpa [hs] using subs_head x
      · rw [e3', List.append_assoc, List.getElem?_append_right (by simp [hs, hlx]; omega), List.getElem?_append_left (by rw [hly]; simp [hs, hlx]; omega)]
        have e0 : pre.length + 1 + x.size - (sa ++ [Tm.n2 k v x y] ++ subs x).length = 0 := by simp [hs, hlx]; omega
        rw [e0]
        exact subs_head y
    · by_cases hix : i - 1 < x.size
      · have := ih1 h4 (pre ++ [(k, v)]) (y.flat ++ post) (ea ++ [E0]) (y.ends (pre.length + 1 + x.size) ++ eb) (sa ++ [Tm.n2 k v x y]) (subs y ++ sb) (by simp [he]) (by simp [hs]) (i - 1) hix
        rw [← e1, ← e2, ← e3, show (pre ++ [(k, v)]).length + (i - 1) = pre.length + i by simp; omega] at this
        exact this
      · have hpl : (pre ++ [(k, v)] ++ x.flat).length + (i - 1 - x.size) = pre.length + i := by simp [hfx]; omega
        have := ih2 h5 (pre ++ [(k, v)] ++ x.flat) post (ea ++ [E0] ++ x.ends (pre.length + 1)) eb (sa ++ [Tm.n2 k v x y] ++ subs x) sb (by simp [he, hex, hfx]) (by simp [hs, hlx, hfx]) (i - 1 - x.size) (by simp only [Tm.size] at hi; omega)
        rw [← e1', ← e2', ← e3', hpl] at this
        exact this

theorem subs_at (t : Tm) (ht : t.ok) (i : Nat) (hi : i < t.size) : ∃ s, SubAt t.flat (t.ends 0) (subs t) i s := by
  have := subs_law t ht [] [] [] [] [] [] rfl rfl i hi
  simpa using this

/-! What holds, as a truth. -/
noncomputable def satB (W : Wd) (t : Tm) (i : Nat) : Bool := @decide (Sat W t i) (Classical.propDecidable _)
theorem satB_iff {W : Wd} {t : Tm} {i : Nat} : satB W t i = true ↔ Sat W t i := by unfold satB; exact @decide_eq_true_iff _ (Classical.propDecidable _)
theorem satB_eq {W : Wd} {t : Tm} {i : Nat} {b : Bool} (h : Sat W t i ↔ b = true) : satB W t i = b := by
  rw [Bool.eq_iff_iff, satB_iff]; exact h

theorem until_congr {n back : Nat} {a a' b b' : Nat → Prop} (h1 : ∀ j, a j ↔ a' j) (h2 : ∀ j, b j ↔ b' j) (i : Nat) : UntilP n back a b i ↔ UntilP n back a' b' i := by
  obtain rfl : a = a' := funext fun j => propext (h1 j)
  obtain rfl : b = b' := funext fun j => propext (h2 j)
  exact Iff.rfl
theorem rel_congr {n back : Nat} {a a' b b' : Nat → Prop} (h1 : ∀ j, a j ↔ a' j) (h2 : ∀ j, b j ↔ b' j) (i : Nat) : RelP n back a b i ↔ RelP n back a' b' i := by
  obtain rfl : a = a' := funext fun j => propext (h1 j)
  obtain rfl : b = b' := funext fun j => propext (h2 j)
  exact Iff.rfl

section
variable (W : Wd) (v : Int) (a b : Tm) (i : Nat)
theorem satB_prop : satB W (.n0 13 v) i = (W.ls.getD i []).getD v.toNat false := satB_eq (by simp [Sat])
theorem satB_yes : satB W (.n0 11 v) i = true := satB_eq (by simp [Sat])
theorem satB_no : satB W (.n0 12 v) i = false := satB_eq (by simp [Sat])
theorem satB_not : satB W (.n1 10 v a) i = !satB W a i := satB_eq (by simp [Sat, ← satB_iff])
theorem satB_next : satB W (.n1 14 v a) i = satB W a (nxt W.n W.back i) := satB_eq (by simp [Sat, ← satB_iff])
theorem satB_and : satB W (.n2 8 v a b) i = (satB W a i && satB W b i) := satB_eq (by simp [Sat, ← satB_iff])
theorem satB_or : satB W (.n2 9 v a b) i = (satB W a i || satB W b i) := satB_eq (by simp [Sat, ← satB_iff])
theorem satB_fin : satB W (.n1 17 v a) i = true ↔ UntilP W.n W.back (fun _ => true = true) (fun j => satB W a j = true) i := by
  rw [satB_iff]
  simp only [Sat, show ¬ (17 : Int) = 10 by decide, show ¬ (17 : Int) = 14 by decide, if_false, if_true]
  exact until_congr (fun _ => by simp) (fun _ => satB_iff.symm) i
theorem satB_glo : satB W (.n1 18 v a) i = true ↔ RelP W.n W.back (fun _ => false = true) (fun j => satB W a j = true) i := by
  rw [satB_iff]
  simp only [Sat, show ¬ (18 : Int) = 10 by decide, show ¬ (18 : Int) = 14 by decide, show ¬ (18 : Int) = 17 by decide, if_false]
  exact rel_congr (fun _ => by simp) (fun _ => satB_iff.symm) i
theorem satB_unt : satB W (.n2 15 v a b) i = true ↔ UntilP W.n W.back (fun j => satB W a j = true) (fun j => satB W b j = true) i := by
  rw [satB_iff]
  simp only [Sat, show ¬ (15 : Int) = 8 by decide, show ¬ (15 : Int) = 9 by decide, if_false, if_true]
  exact until_congr (fun _ => satB_iff.symm) (fun _ => satB_iff.symm) i
theorem satB_rel : satB W (.n2 16 v a b) i = true ↔ RelP W.n W.back (fun j => satB W a j = true) (fun j => satB W b j = true) i := by
  rw [satB_iff]
  simp only [Sat, show ¬ (16 : Int) = 8 by decide, show ¬ (16 : Int) = 9 by decide, show ¬ (16 : Int) = 15 by decide, if_false]
  exact rel_congr (fun _ => satB_iff.symm) (fun _ => satB_iff.symm) i
end

/-- The terms that logic.Check lets stand, by their kinds. -/
theorem tm_cases {props : Int} {s : Tm} (hok : s.ok) (hf : FitOp props (s.kd, s.vl)) :
    (∃ v, s = .n0 13 v ∧ 0 ≤ v ∧ v < props) ∨ (s = .n0 11 0) ∨ (s = .n0 12 0) ∨ (∃ a, s = .n1 10 0 a) ∨ (∃ a, s = .n1 14 0 a) ∨ (∃ a, s = .n1 17 0 a) ∨ (∃ a, s = .n1 18 0 a) ∨
    (∃ a b, s = .n2 8 0 a b) ∨ (∃ a b, s = .n2 9 0 a b) ∨ (∃ a b, s = .n2 15 0 a b) ∨ (∃ a b, s = .n2 16 0 a b) := by
  obtain ⟨h1, h2, h3, h4⟩ := hf
  cases s with
  | n0 k v =>
    obtain ⟨_, _, hp⟩ := hok
    simp only [Tm.kd, Tm.vl] at h1 h2 h3 h4
    have : k = 11 ∨ k = 12 ∨ k = 13 := by
      unfold partsOf at hp
      split at hp
      · cases hp
      · split at hp
        · cases hp
        · omega
    rcases this with rfl | rfl | rfl
    · obtain rfl := h4 (by omega); exact .inr (.inl rfl)
    · obtain rfl := h4 (by omega); exact .inr (.inr (.inl rfl))
    · exact .inl ⟨v, rfl, h3 rfl⟩
  | n1 k v a =>
    obtain ⟨_, _, hp, _⟩ := hok
    simp only [Tm.kd, Tm.vl] at h1 h2 h3 h4
    have : k = 10 ∨ k = 14 ∨ k = 17 ∨ k = 18 := by
      unfold partsOf at hp
      split at hp
      · cases hp
      · split at hp
        · omega
        · cases hp
    obtain rfl := h4 (by omega)
    rcases this with rfl | rfl | rfl | rfl
    · exact .inr (.inr (.inr (.inl ⟨a, rfl⟩)))
    · exact .inr (.inr (.inr (.inr (.inl ⟨a, rfl⟩))))
    · exact .inr (.inr (.inr (.inr (.inr (.inl ⟨a, rfl⟩)))))
    · exact .inr (.inr (.inr (.inr (.inr (.inr (.inl ⟨a, rfl⟩))))))
  | n2 k v a b =>
    obtain ⟨_, _, hp, _⟩ := hok
    simp only [Tm.kd, Tm.vl] at h1 h2 h3 h4
    have : k = 8 ∨ k = 9 ∨ k = 15 ∨ k = 16 := by
      unfold partsOf at hp
      split at hp
      · omega
      · split at hp
        · cases hp
        · cases hp
    obtain rfl := h4 (by omega)
    rcases this with rfl | rfl | rfl | rfl
    · exact .inr (.inr (.inr (.inr (.inr (.inr (.inr (.inl ⟨a, b, rfl⟩)))))))
    · exact .inr (.inr (.inr (.inr (.inr (.inr (.inr (.inr (.inl ⟨a, b, rfl⟩))))))))
    · exact .inr (.inr (.inr (.inr (.inr (.inr (.inr (.inr (.inr (.inl ⟨a, b, rfl⟩)))))))))
    · exact .inr (.inr (.inr (.inr (.inr (.inr (.inr (.inr (.inr (.inr ⟨a, b, rfl⟩)))))))))

end Go.Proofs.YtbmimdnpchldlaaDoor
