/- Several texts in one: FormP; LogA; TruP; Bits; TruA. No condition. -/
import Derived.Test.YtkkbefhnklpfaaaDoorGen
import Derived.Test.YtkkbefhnklpfaaaDoorPolC
import Derived.Test.YtkkbefhnklpfaaaDoorTermB
import Derived.Test.YtkkbefhnklpfaaaDoorTag
import Derived.Deep.LoopGhost
import Derived.Test.YtkkbefhnklpfaaaDoorBase
import Derived.Deep.RegionLaw
import Derived.BigQuiet
import Derived.Deep.RegionHeld3
namespace Go.Proofs.YtkkbefhnklpfaaaDoor

/-- Does a kind look ahead? -/
def aheadB (k : Int) : Bool := decide (14 ≤ k ∧ k ≤ 18)
def cntA : List Op2 → Nat
  | [] => 0
  | o :: l => (if aheadB o.1 then 1 else 0) + cntA l
theorem cntA_app (a b : List Op2) : cntA (a ++ b) = cntA a + cntA b := by
  induction a with
  | nil => simp [cntA]
  | cons o a ih => simp only [List.cons_append, cntA, ih]; omega

def fLeaf (r : Op2) (props : Int) : Tm := if 0 < props then .n0 13 (pk r.2 props) else .n0 (11 + pk r.2 2) 0
def fKind0 (r : Op2) (d p : Nat) : Int := if d = 0 ∨ 12 < p + 1 then pk r.1 4 else pk r.1 16
def fKind (r : Op2) (d p t : Nat) : Int := if 8 < fKind0 r d p ∧ t = 0 then 4 + fKind0 r d p % 5 else fKind0 r d p
def aheadK (k : Int) : Int := if k = 9 then 14 else if k = 11 then 18 else 17

def fT (raw : List Op2) (props : Int) : Nat → Nat → Nat → Tm × Nat × Nat
  | 0, p, t => (fLeaf (rawAt raw p) props, p + 1, t)
  | d + 1, p, t =>
    if fKind (rawAt raw p) (d + 1) p t < 4 then (fLeaf (rawAt raw p) props, p + 1, t)
    else if fKind (rawAt raw p) (d + 1) p t < 6 then (.n1 10 0 (fT raw props d (p + 1) t).1, (fT raw props d (p + 1) t).2)
    else if fKind (rawAt raw p) (d + 1) p t < 9 then
      (.n2 (8 + fKind (rawAt raw p) (d + 1) p t % 2) 0 (fT raw props d (p + 1) t).1 (fT raw props d (fT raw props d (p + 1) t).2.1 (fT raw props d (p + 1) t).2.2).1, (fT raw props d (fT raw props d (p + 1) t).2.1 (fT raw props d (p + 1) t).2.2).2)
    else if fKind (rawAt raw p) (d + 1) p t < 13 then (.n1 (aheadK (fKind (rawAt raw p) (d + 1) p t)) 0 (fT raw props d (p + 1) (t - 1)).1, (fT raw props d (p + 1) (t - 1)).2)
    else
      (.n2 (15 + fKind (rawAt raw p) (d + 1) p t % 2) 0 (fT raw props d (p + 1) (t - 1)).1 (fT raw props d (fT raw props d (p + 1) (t - 1)).2.1 (fT raw props d (p + 1) (t - 1)).2.2).1, (fT raw props d (fT raw props d (p + 1) (t - 1)).2.1 (fT raw props d (p + 1) (t - 1)).2.2).2)

theorem fKind0_bd (r : Op2) (d p : Nat) : 0 ≤ fKind0 r d p ∧ fKind0 r d p < 16 ∧ (d = 0 ∨ 12 ≤ p → fKind0 r d p < 4) := by
  unfold fKind0
  have h1 := pk_bd r.1 4 (by omega)
  have h2 := pk_bd r.1 16 (by omega)
  split <;> omega

theorem fKind_bd (r : Op2) (d p t : Nat) : 0 ≤ fKind r d p t ∧ fKind r d p t < 16 ∧ (d = 0 ∨ 12 ≤ p → fKind r d p t < 4) ∧ (t = 0 → fKind r d p t < 9) := by
  have h := fKind0_bd r d p
  unfold fKind
  split <;> omega

theorem fLeaf_size (r : Op2) (props : Int) : (fLeaf r props).size = 1 := by unfold fLeaf; split <;> rfl

theorem fT_size (raw : List Op2) (props : Int) : ∀ d p t, (fT raw props d p t).2.1 = p + (fT raw props d p t).1.size := by
  intro d
  induction d with
  | zero => intro p t; simp [fT, fLeaf_size]
  | succ d ih =>
    intro p t
    unfold fT
    have h1 := ih (p + 1) t
    have h2 := ih (fT raw props d (p + 1) t).2.1 (fT raw props d (p + 1) t).2.2
    have h3 := ih (p + 1) (t - 1)
    have h4 := ih (fT raw props d (p + 1) (t - 1)).2.1 (fT raw props d (p + 1) (t - 1)).2.2
    split
    · simp [fLeaf_size]
    · split
      · simp only [Tm.size]; omega
      · split
        · simp only [Tm.size]; omega
        · split <;> simp only [Tm.size] <;> omega

theorem fT_end (raw : List Op2) (props : Int) : ∀ d p t, (12 ≤ p → (fT raw props d p t).2.1 = p + 1) ∧ (p < 12 → (fT raw props d p t).2.1 ≤ 13 + d) := by
  intro d
  induction d with
  | zero => intro p t; exact ⟨fun _ => rfl, fun h => by show p + 1 ≤ 13 + 0; omega⟩
  | succ d ih =>
    intro p t
    have hk := fKind_bd (rawAt raw p) (d + 1) p t
    have h1 := ih (p + 1) t
    have h2 := ih (fT raw props d (p + 1) t).2.1 (fT raw props d (p + 1) t).2.2
    have h3 := ih (p + 1) (t - 1)
    have h4 := ih (fT raw props d (p + 1) (t - 1)).2.1 (fT raw props d (p + 1) (t - 1)).2.2
    by_cases hp : 12 ≤ p
    · unfold fT
      rw [if_pos (by omega)]
      exact ⟨fun _ => rfl, fun h => by omega⟩
    · refine ⟨fun h => by omega, fun _ => ?_⟩
      unfold fT
      split
      · show p + 1 ≤ _; omega
      · split
        · show (fT raw props d (p + 1) t).2.1 ≤ _; omega
        · split
          · show (fT raw props d (fT raw props d (p + 1) t).2.1 (fT raw props d (p + 1) t).2.2).2.1 ≤ _; omega
          · split
            · show (fT raw props d (p + 1) (t - 1)).2.1 ≤ _; omega
            · show (fT raw props d (fT raw props d (p + 1) (t - 1)).2.1 (fT raw props d (p + 1) (t - 1)).2.2).2.1 ≤ _; omega

theorem fT_small (raw : List Op2) (props : Int) (d t : Nat) : (fT raw props d 0 t).1.size ≤ 13 + d := by
  have h1 := (fT_end raw props d 0 t).2 (by omega)
  have h2 := fT_size raw props d 0 t
  omega

theorem fLeaf_ok (r : Op2) (props : Int) : (fLeaf r props).ok := by
  unfold fLeaf
  have := pk_bd r.2 2 (by omega)
  split
  · simp [Tm.ok, partsOf]
  · refine ⟨by omega, by omega, ?_⟩
    unfold partsOf
    rw [if_neg (by omega), if_neg (by omega)]

theorem fT_ok (raw : List Op2) (props : Int) : ∀ d p t, (fT raw props d p t).1.ok := by
  intro d
  induction d with
  | zero => intro p t; exact fLeaf_ok _ _
  | succ d ih =>
    intro p t
    have hk := fKind_bd (rawAt raw p) (d + 1) p t
    unfold fT
    split
    · exact fLeaf_ok _ _
    · split
      · exact ⟨by omega, by omega, by unfold partsOf; simp, ih _ _⟩
      · split
        · refine ⟨by omega, by omega, ?_, ih _ _, ih _ _⟩
          unfold partsOf
          rw [if_pos (by omega)]
        · split
          · have ha : aheadK (fKind (rawAt raw p) (d + 1) p t) = 14 ∨ aheadK (fKind (rawAt raw p) (d + 1) p t) = 17 ∨ aheadK (fKind (rawAt raw p) (d + 1) p t) = 18 := by
              unfold aheadK; split
              · omega
              · split <;> omega
            refine ⟨by omega, by omega, ?_, ih _ _⟩
            unfold partsOf
            rw [if_neg (by omega), if_pos (by omega)]
          · refine ⟨by omega, by omega, ?_, ih _ _, ih _ _⟩
            unfold partsOf
            rw [if_pos (by omega)]

/-- What logic.Check wants of an op. -/
def FitOp (props : Int) (o : Op2) : Prop := 8 ≤ o.1 ∧ o.1 ≤ 18 ∧ (o.1 = 13 → 0 ≤ o.2 ∧ o.2 < props) ∧ (o.1 ≠ 13 → o.2 = 0)

theorem fLeaf_fit (r : Op2) (props : Int) : ∀ o ∈ (fLeaf r props).flat, FitOp props o ∧ aheadB o.1 = false := by
  unfold fLeaf
  have := pk_bd r.2 2 (by omega)
  split
  · rename_i h
    have := pk_bd r.2 props h
    intro o ho
    simp only [Tm.flat, List.mem_singleton] at ho
    subst ho
    refine ⟨⟨by simp, by simp, fun _ => this, fun h => absurd rfl h⟩, by simp [aheadB]⟩
  · intro o ho
    simp only [Tm.flat, List.mem_singleton] at ho
    subst ho
    refine ⟨⟨by simp only; omega, by simp only; omega, fun h => by simp only at h; omega, fun _ => rfl⟩, ?_⟩
    unfold aheadB
    simp only [decide_eq_false_iff_not]
    omega

theorem fT_fit (raw : List Op2) (props : Int) : ∀ d p t, ∀ o ∈ (fT raw props d p t).1.flat, FitOp props o := by
  intro d
  induction d with
  | zero => intro p t o ho; exact (fLeaf_fit _ _ o ho).1
  | succ d ih =>
    intro p t o ho
    have hk := fKind_bd (rawAt raw p) (d + 1) p t
    unfold fT at ho
    have hop : ∀ k : Int, 8 ≤ k → k ≤ 18 → k ≠ 13 → FitOp props (k, 0) := fun k h1 h2 h3 => ⟨h1, h2, fun h => absurd h h3, fun _ => rfl⟩
    split at ho
    · exact (fLeaf_fit _ _ o ho).1
    · split at ho
      · rcases List.mem_cons.1 ho with rfl | ho
        · exact hop 10 (by omega) (by omega) (by omega)
        · exact ih _ _ o ho
      · split at ho
        · rcases List.mem_cons.1 ho with rfl | ho
          · exact hop _ (by omega) (by omega) (by omega)
          · rcases List.mem_append.1 ho with ho | ho
            · exact ih _ _ o ho
            · exact ih _ _ o ho
        · split at ho
          · have ha : aheadK (fKind (rawAt raw p) (d + 1) p t) = 14 ∨ aheadK (fKind (rawAt raw p) (d + 1) p t) = 17 ∨ aheadK (fKind (rawAt raw p) (d + 1) p t) = 18 := by
              unfold aheadK; split
              · omega
              · split <;> omega
            rcases List.mem_cons.1 ho with rfl | ho
            · exact hop _ (by omega) (by omega) (by omega)
            · exact ih _ _ o ho
          · rcases List.mem_cons.1 ho with rfl | ho
            · exact hop _ (by omega) (by omega) (by omega)
            · rcases List.mem_append.1 ho with ho | ho
              · exact ih _ _ o ho
              · exact ih _ _ o ho

theorem cntA_zero : ∀ l : List Op2, (∀ o ∈ l, aheadB o.1 = false) → cntA l = 0
  | [], _ => rfl
  | o :: l, h => by
    have h1 := h o (by simp)
    have h2 := cntA_zero l fun x hx => h x (List.mem_cons_of_mem _ hx)
    simp [cntA, h1, h2]

theorem fT_cnt (raw : List Op2) (props : Int) : ∀ d p t, cntA (fT raw props d p t).1.flat + (fT raw props d p t).2.2 = t := by
  intro d
  induction d with
  | zero =>
    intro p t
    have := cntA_zero _ fun o ho => (fLeaf_fit (rawAt raw p) props o ho).2
    simp [fT, this]
  | succ d ih =>
    intro p t
    have hk := fKind_bd (rawAt raw p) (d + 1) p t
    have h1 := ih (p + 1) t
    have h2 := ih (fT raw props d (p + 1) t).2.1 (fT raw props d (p + 1) t).2.2
    have h3 := ih (p + 1) (t - 1)
    have h4 := ih (fT raw props d (p + 1) (t - 1)).2.1 (fT raw props d (p + 1) (t - 1)).2.2
    unfold fT
    split
    · have := cntA_zero _ fun o ho => (fLeaf_fit (rawAt raw p) props o ho).2
      simp [this]
    · split
      · simp only [Tm.flat, cntA, aheadB]
        simp
        exact h1
      · split
        · have hb : aheadB (8 + fKind (rawAt raw p) (d + 1) p t % 2) = false := by unfold aheadB; simp only [decide_eq_false_iff_not]; omega
          simp only [Tm.flat, cntA, cntA_app, hb]
          simp
          omega
        · have ht : t ≠ 0 := fun e => by have := hk.2.2.2 e; omega
          split
          · have hb : aheadB (aheadK (fKind (rawAt raw p) (d + 1) p t)) = true := by
              unfold aheadB aheadK; split
              · simp
              · split <;> simp
            simp only [Tm.flat, cntA, hb]
            simp
            omega
          · have hb : aheadB (15 + fKind (rawAt raw p) (d + 1) p t % 2) = true := by unfold aheadB; simp only [decide_eq_true_eq]; omega
            simp only [Tm.flat, cntA, cntA_app, hb]
            simp
            omega

end Go.Proofs.YtkkbefhnklpfaaaDoor

namespace Go.Proofs.YtkkbefhnklpfaaaDoor
open Go.RowKit

theorem Row.oneAt' (w : World) (t : TypeId) (x : Value) (k : Nat) (hk : k = w.heap.size) : Row (w.alloc (.cells #[x] t)) 1 (some ⟨k, 0, none⟩) 1 1 [x] := by subst hk; exact Row.one w t x

theorem ah_fn (k : Int) (w : World) : Calls Tryd.prog 60 #[.int .i64 k] w fun e w' => e = .returned (.bool (aheadB k)) ∧ w = w' := by
  by_cases h1 : 14 ≤ k
  · by_cases h2 : k ≤ 18
    · have hb : aheadB k = true := by simp [aheadB, h1, h2]
      rw [hb]
      go_enter Tryd.func60, Tryd.ntmps60
      go_wp2
      go_ret
      exact ⟨rfl, rfl⟩
    · have hb : aheadB k = false := by simp [aheadB, h2]
      rw [hb]
      go_enter Tryd.func60, Tryd.ntmps60
      go_wp2
      go_ret
      exact ⟨rfl, rfl⟩
  · have hb : aheadB k = false := by simp [aheadB, h1]
    rw [hb]
    go_enter Tryd.func60, Tryd.ntmps60
    go_wp2
    go_ret
    exact ⟨rfl, rfl⟩

theorem fits_ok (o : Op2) (props : Int) (w : World) (h : FitOp props o) : Calls Tryd.prog 62 #[.agg #[.int .i64 o.1, .int .i64 o.2], .int .i64 props] w fun e w' => e = .returned (.int .i64 0) ∧ Ext w w' := by
  obtain ⟨k, v⟩ := o
  obtain ⟨h1, h2, h3, h4⟩ := h
  simp only at h1 h2 h3 h4 ⊢
  have hk8 : ¬ k < 8 := by omega
  by_cases hk : k = 13
  · obtain ⟨h5, h6⟩ := h3 hk
    have hv : ¬ v < 0 := by omega
    have hv2 : ¬ props ≤ v := by omega
    clear h3 h4
    subst hk
    go_enter Tryd.func62, Tryd.ntmps62
    go_wp2
    go_ret
    exact ⟨rfl, ext_al (Ext.refl w) _⟩
  · have hv := h4 hk
    have hkb : (k == 13) = false := by rw [beq_eq_false_iff_ne]; exact hk
    have hkb2 : (k != 13) = true := by rw [bne_iff_ne]; exact hk
    clear h3 h4
    subst hv
    go_enter Tryd.func62, Tryd.ntmps62
    go_wp2
    go_ret
    exact ⟨rfl, ext_al (Ext.refl w) _⟩

theorem cntA_take (l : List Op2) {i : Nat} (h : i < l.length) : cntA (l.take (i + 1)) = cntA (l.take i) + (if aheadB l[i].1 then 1 else 0) := by
  rw [List.take_succ_eq_append_getElem h, cntA_app]
  simp [cntA]

theorem cntA_take_le (l : List Op2) (i : Nat) : cntA (l.take i) ≤ cntA l := by
  have : cntA l = cntA (l.take i) + cntA (l.drop i) := by rw [← cntA_app, List.take_append_drop]
  omega

/-- A formula: what logic.Check wants. -/
structure IsF (l : List Op2) (props : Int) (t : Tm) : Prop where
  ok : t.ok
  flat : t.flat = l
  small : t.size ≤ 60
  fit : ∀ o ∈ l, FitOp props o
  cnt : cntA l ≤ 6
  p0 : 0 ≤ props
  p6 : props ≤ 6

set_option maxRecDepth 100000 in
set_option maxHeartbeats 4000000 in
theorem lcheck_ok (v : Value) (l : List Op2) (props : Int) (t : Tm) (w : World) (h : Ops w v l) (ht : Tab w) (hf : IsF l props t) :
    Calls Tryd.prog 46 #[v, .int .i64 props] w fun e w' => e = .returned (.int .i64 0) ∧ Ext w w' := by
  have hen := ends_term t hf.ok hf.small
  rw [hf.flat] at hen
  have HH := Lib.hid (by have H := ends_any v l w h ht; rw [hen] at H; exact H)
  obtain ⟨a, cap, rfl, hr⟩ := h
  have hl60 : l.length ≤ 60 := by rw [← hf.flat, Tm.flat_len]; exact hf.small
  have hpos : 0 < l.length := by rw [← hf.flat, Tm.flat_len]; exact t.size_pos
  have HR := Lib.hid hr
  have HF := Lib.hid hf
  have hp0 := hf.p0
  have hp6 := hf.p6
  clear hen hf hr ht
  go_enter Tryd.func46, Tryd.ntmps46
  go_wp2_with fail
  refine HH.out.mono ?_
  rintro e w1 ⟨hE1, v1, rfl, hown⟩
  obtain ⟨a1, c1, rfl, _⟩ := hown.row
  have HE1 := Lib.hid hE1
  clear hown hE1 HH
  go_wp2_with fail
  go_loopg [7, 27] l.length (fun m y x wr => ∃ i : Nat, m + i = l.length ∧ x = .int .i64 (i : Int) ∧ y = .int .i64 (cntA (l.take i) : Int) ∧ Ext w wr)
  case atStart => exact ⟨0, by omega, by go_num, by simp [cntA], HE1.out⟩
  case round =>
    obtain ⟨i, hmi, rfl, rfl, hE⟩ := hrel
    have HMI := Lib.hid hmi
    have HE := Lib.hid hE
    by_cases hi : i < l.length
    · obtain ⟨b, off, ha, hc⟩ := (HR.out.ext hE).ops
      obtain rfl := ha hpos
      obtain ⟨k1, k2⟩ := hc i hi
      have hfit := HF.out.fit l[i] (by simp)
      have HCN := Lib.hid (cntA_take l hi)
      have hle := cntA_take_le l i
      have hc6 := HF.out.cnt
      have hiI : (i : Int) < (l.length : Int) := by omega
      have hi0 : (0 : Int) ≤ (i : Int) := by omega
      have HFO := Lib.hid fun wx => fits_ok l[i] props wx hfit
      have HAF := Lib.hid fun wx => ah_fn l[i].1 wx
      clear hc ha hE hmi hfit
      generalize l[i] = o at *
      generalize hcn : cntA (l.take i) = n at *
      have HN := Lib.hid hcn
      clear hcn
      have q0 := blk_new wr (Obj.cells #[.int .i64 o.1, .int .i64 o.2] 35)
      have HQ := Lib.hid q0
      clear q0
      go_wp2_with fail
      refine (HFO.out _).mono ?_
      rintro e w3 ⟨rfl, hE3⟩
      have q3 := blk_ext HQ.out hE3
      have q30 := blk_cell q3 (i := 0) rfl
      have HE3 := Lib.hid (Ext.trans (ext_al HE.out (Obj.cells #[.int .i64 o.1, .int .i64 o.2] 35)) hE3)
      clear q3 hE3
      go_wp2_with fail
      refine (HAF.out _).mono ?_
      rintro e wq ⟨rfl, rfl⟩
      have hcn2 := HCN.out
      cases hah : aheadB o.1
      · rw [hah] at hcn2
        have HC2 := Lib.hid hcn2
        clear hcn2 hah
        go_wp2_with fail
        go_roundg (gk - 1)
        case measure => have := HMI.out; omega
        case rel => exact ⟨i + 1, by have := HMI.out; omega, by go_num, by rw [HC2.out]; rfl, HE3.out⟩
      · rw [hah] at hcn2
        have HC2 := Lib.hid hcn2
        clear hcn2 hah
        go_wp2_with fail
        go_roundg (gk - 1)
        case measure => have := HMI.out; omega
        case rel => exact ⟨i + 1, by have := HMI.out; omega, by go_num, by rw [HC2.out]; go_num, HE3.out⟩
    · have hiI : ¬ (i : Int) < (l.length : Int) := by omega
      have hle := cntA_take_le l i
      have hc6 := HF.out.cnt
      have hc6I : ¬ (6 : Int) < (cntA (l.take i) : Int) := by omega
      generalize cntA (l.take i) = n at *
      go_wp2
      go_ret
      exact ⟨rfl, HE.out⟩

/-- The places of the ops that look ahead among the first. -/
def plUp (l : List Op2) : Nat → List Nat
  | 0 => []
  | i + 1 => if aheadB (l.getD i (0, 0)).1 then plUp l i ++ [i] else plUp l i
theorem plUp_len (l : List Op2) : ∀ i, i ≤ l.length → (plUp l i).length = cntA (l.take i)
  | 0, _ => by simp [plUp, cntA]
  | i + 1, h => by
    have ih := plUp_len l i (by omega)
    rw [cntA_take l (by omega)]
    unfold plUp
    rw [show l.getD i (0, 0) = l[i]'(by omega) by simp [List.getD, List.getElem?_eq_getElem (show i < l.length by omega)]]
    split
    · rename_i e; rw [List.length_append, ih]; rfl
    · rename_i e; rw [ih]; rfl
theorem plUp_get (l : List Op2) : ∀ i, i ≤ l.length → ∀ j a, (plUp l i)[j]? = some a → a < i ∧ aheadB (l.getD a (0, 0)).1 = true ∧ cntA (l.take a) = j
  | 0, _, j, a, h => by simp [plUp] at h
  | i + 1, hi, j, a, h => by
    unfold plUp at h
    split at h
    · rename_i e
      by_cases hj : j < (plUp l i).length
      · rw [List.getElem?_append_left hj] at h
        obtain ⟨h1, h2, h3⟩ := plUp_get l i (by omega) j a h
        exact ⟨by omega, h2, h3⟩
      · rw [List.getElem?_append_right (by omega)] at h
        have hj2 : j - (plUp l i).length = 0 := by
          by_cases e0 : j - (plUp l i).length = 0
          · exact e0
          · rw [List.getElem?_eq_none (by simp; omega)] at h; cases h
        rw [hj2] at h
        have : i = a := by simpa using h
        subst this
        exact ⟨by omega, e, by rw [← plUp_len l i (by omega)]; omega⟩
    · obtain ⟨h1, h2, h3⟩ := plUp_get l i (by omega) j a h
      exact ⟨by omega, h2, h3⟩

def plL (l : List Op2) : List Int := (plUp l l.length).map fun a : Nat => (a : Int)
theorem plL_len (l : List Op2) : (plL l).length = cntA l := by
  rw [plL, List.length_map, plUp_len l l.length (Nat.le_refl _), List.take_length]

set_option maxRecDepth 100000 in
set_option maxHeartbeats 4000000 in
theorem places_any (v : Value) (l : List Op2) (props : Int) (t : Tm) (w : World) (h : Ops w v l) (ht : Tab w) (hf : IsF l props t) :
    Calls Tryd.prog 41 #[v, .int .i64 props] w fun e w' => ∃ a c, e = .returned (.tuple #[.slice a (plL l).length c, .int .i64 0]) ∧ w'.ownsRow w.heap.size 3 1 (.slice a (plL l).length c) (plL l).length ((plL l).map (.int .i64)) ∧ Ext w w' := by
  have HCK := Lib.hid (lcheck_ok v l props t w h ht hf)
  obtain ⟨a, cap, rfl, hr⟩ := h
  have hl60 : l.length ≤ 60 := by rw [← hf.flat, Tm.flat_len]; exact hf.small
  have hpos : 0 < l.length := by rw [← hf.flat, Tm.flat_len]; exact t.size_pos
  have HR := Lib.hid hr
  have hc6 := hf.cnt
  clear hf hr ht
  go_enter Tryd.func41, Tryd.ntmps41
  go_wp2_with fail
  refine HCK.out.mono ?_
  rintro e w1 ⟨rfl, hE1⟩
  have HE1 := Lib.hid hE1
  clear hE1 HCK
  go_wp2_with fail
  go_loopg [7, 18] l.length (fun m y x wr => ∃ (i : Nat) (ap : Option Addr) (cp : Nat), m + i = l.length ∧ x = .int .i64 (i : Int) ∧ y = .slice ap (plUp l i).length cp ∧ wr.ownsRow w1.heap.size 3 1 (.slice ap (plUp l i).length cp) (plUp l i).length ((plUp l i).map fun a : Nat => Value.int .i64 (a : Int)) ∧ Ext w1 wr)
  case atStart => exact ⟨0, none, 0, by omega, by go_num, rfl, World.ownsRow_nil _ _ _ _, Ext.refl _⟩
  case round =>
    obtain ⟨i, ap, cp, hmi, rfl, rfl, ho, hE⟩ := hrel
    have HMI := Lib.hid hmi
    have HO := Lib.hid ho
    have HE := Lib.hid hE
    by_cases hi : i < l.length
    · obtain ⟨b, off, ha, hc⟩ := (HR.out.ext (HE1.out.trans hE)).ops
      obtain rfl := ha hpos
      obtain ⟨k1, k2⟩ := hc i hi
      have hiI : (i : Int) < (l.length : Int) := by omega
      have hi0 : (0 : Int) ≤ (i : Int) := by omega
      have hpl : plUp l (i + 1) = if aheadB l[i].1 then plUp l i ++ [i] else plUp l i := by
        rw [plUp, show l.getD i (0, 0) = l[i] by simp [List.getD, List.getElem?_eq_getElem hi]]
      have hpn : (plUp l i).length ≤ 6 := by have := cntA_take_le l i; rw [plUp_len l i (by omega)]; omega
      have HPL := Lib.hid hpl
      clear hc ha hE hmi hpl ho
      generalize l[i] = o at *
      generalize plUp l i = pl at *
      have q0 := blk_new wr (Obj.cells #[.int .i64 o.1, .int .i64 o.2] 35)
      have hx := ext_al HE.out (Obj.cells #[.int .i64 o.1, .int .i64 o.2] 35)
      have HX := Lib.hid hx
      have ho2 := HO.out.alloc (Obj.cells #[.int .i64 o.1, .int .i64 o.2] 35)
      have HO2 := Lib.hid ho2
      clear q0 hx ho2
      go_wp2_with fail
      refine (ah_fn o.1 _).mono ?_
      rintro e wq ⟨rfl, rfl⟩
      have hpl := HPL.out
      cases hah : aheadB o.1
      · rw [hah, if_neg (by simp)] at hpl
        have HP2 := Lib.hid hpl
        clear hpl hah
        go_wp2_with fail
        go_roundg (gk - 1)
        case measure => have := HMI.out; omega
        case rel => exact ⟨i + 1, ap, cp, by have := HMI.out; omega, by go_num, by rw [HP2.out], by rw [HP2.out]; exact HO2.out, HX.out⟩
      · rw [hah, if_pos rfl] at hpl
        have HP2 := Lib.hid hpl
        have ho3 := HO2.out.alloc (Obj.cells #[.int .i64 (i : Int)] 3)
        have hx3 := ext_al HX.out (Obj.cells #[.int .i64 (i : Int)] 3)
        have HO3 := Lib.hid ho3
        have HX3 := Lib.hid hx3
        clear hpl hah hx3
        go_wp2_with (at_builtin; go_must (refine wpl_append rfl rfl Tryd.slInts w1.heap.size rfl ho3 rfl (Row.oneAt' _ _ _ _ (by simp)) (one_int _) (by unfold maxLen; omega) (by omega) HX3.out.size ?_))
        intro v4 w4 hown4 hg4 hb4 _
        obtain ⟨a4, c4, rfl, _⟩ := hown4.row
        have HE4 := Lib.hid (Below.grown HX3.out hg4 HX3.out.size (fun b hb => (HO3.out.lt b hb).1))
        have HO4 := Lib.hid hown4
        clear hown4 hg4 hb4 ho3
        go_wp2_with fail
        go_roundg (gk - 1)
        case measure => have := HMI.out; omega
        case rel => exact ⟨i + 1, a4, c4, by have := HMI.out; omega, by go_num, by rw [HP2.out, List.length_append]; rfl, by rw [HP2.out, List.length_append, List.map_append]; exact HO4.out, HE4.out⟩
    · obtain rfl : i = l.length := by omega
      have hiI : ¬ (l.length : Int) < (l.length : Int) := by omega
      have hl : (plL l).length = (plUp l l.length).length := by rw [plL, List.length_map]
      have hm : (plL l).map (Value.int .i64) = (plUp l l.length).map fun a : Nat => Value.int .i64 (a : Int) := by rw [plL, List.map_map]; rfl
      have HL := Lib.hid hl
      have HMM := Lib.hid hm
      have HEW := Lib.hid (HE1.out.trans hE)
      clear hE ho hl hm HE hmi
      go_wp2
      go_ret2
      exact ⟨ap, cp, by rw [HL.out]; rfl, by rw [HL.out, HMM.out]; exact own_down HO.out HE1.out.size, HEW.out⟩

end Go.Proofs.YtkkbefhnklpfaaaDoor

namespace Go.Proofs.YtkkbefhnklpfaaaDoor

/-- The truths of all terms of a formula, by places, where b ops that look ahead stand in front of it. -/
def tvT (L : List Bool) (c : Nat) : Tm → Nat → List Bool
  | .n0 k v, b => [if aheadB k then c.testBit b else if k = 13 then L.getD v.toNat false else decide (k = 11)]
  | .n1 k _ a, b => (if aheadB k then c.testBit b else !(tvT L c a (b + (if aheadB k then 1 else 0))).headD false) :: tvT L c a (b + (if aheadB k then 1 else 0))
  | .n2 k _ x y, b =>
    (if aheadB k then c.testBit b
      else if k = 8 then (tvT L c x (b + (if aheadB k then 1 else 0))).headD false && (tvT L c y (b + (if aheadB k then 1 else 0) + cntA x.flat)).headD false
      else (tvT L c x (b + (if aheadB k then 1 else 0))).headD false || (tvT L c y (b + (if aheadB k then 1 else 0) + cntA x.flat)).headD false) ::
      (tvT L c x (b + (if aheadB k then 1 else 0)) ++ tvT L c y (b + (if aheadB k then 1 else 0) + cntA x.flat))

theorem tvT_len (L : List Bool) (c : Nat) (t : Tm) : ∀ b, (tvT L c t b).length = t.size := by
  induction t with
  | n0 => intro b; rfl
  | n1 k v a ih => intro b; simp [tvT, Tm.size, ih]
  | n2 k v x y ih1 ih2 => intro b; simp [tvT, Tm.size, ih1, ih2]

/-- The place of an op's second part: where its first part ends. -/
def secAt (es : List Int) (i : Nat) : Nat := (es.getD (i + 1) 0).toNat

/-- What each op makes, out of what its parts make. -/
structure TvAt (L : List Bool) (c : Nat) (l : List Op2) (es : List Int) (tv : List Bool) (i : Nat) (k v : Int) : Prop where
  one : partsOf k = 1 ∨ partsOf k = 2 → i + 1 < l.length
  two : partsOf k = 2 → es[i + 1]? = some (secAt es i : Int) ∧ i + 1 < secAt es i ∧ secAt es i < l.length
  ah : aheadB k = true → tv[i]? = some (c.testBit (cntA (l.take i)))
  prop : k = 13 → tv[i]? = some (L.getD v.toNat false)
  yes : k = 11 → tv[i]? = some true
  no : k = 12 → tv[i]? = some false
  not : k = 10 → tv[i]? = some (!tv.getD (i + 1) false)
  and : k = 8 → tv[i]? = some (tv.getD (i + 1) false && tv.getD (secAt es i) false)
  or : k = 9 → tv[i]? = some (tv.getD (i + 1) false || tv.getD (secAt es i) false)

theorem getD_mid (a b c : List Bool) (h : 0 < b.length) : (a ++ b ++ c).getD a.length false = b.headD false := by
  cases b with
  | nil => simp at h
  | cons x b => simp [List.getD]

theorem tv_law (L : List Bool) (c : Nat) (t : Tm) (ht : t.ok) : ∀ (pre post : List Op2) (ea eb : List Int) (ta tb : List Bool), ea.length = pre.length → ta.length = pre.length →
    ∀ i, i < t.size → ∀ k v, (pre ++ t.flat ++ post)[pre.length + i]? = some (k, v) →
      TvAt L c (pre ++ t.flat ++ post) (ea ++ t.ends pre.length ++ eb) (ta ++ tvT L c t (cntA pre) ++ tb) (pre.length + i) k v := by
  induction t with
  | n0 k0 v0 =>
    intro pre post ea eb ta tb he hta i hi k v hkv
    obtain ⟨h1, h2, h3⟩ := ht
    simp only [Tm.size] at hi
    obtain rfl : i = 0 := by omega
    simp only [Tm.flat, Nat.add_zero] at hkv ⊢
    have hkv' : k0 = k ∧ v0 = v := by simpa using hkv
    obtain ⟨rfl, rfl⟩ := hkv'
    have htv : (ta ++ tvT L c (.n0 k0 v0) (cntA pre) ++ tb)[pre.length]? = some (if aheadB k0 then c.testBit (cntA pre) else if k0 = 13 then L.getD v0.toNat false else decide (k0 = 11)) := by
      rw [← hta]; simp [tvT]
    have hnp : ∀ j : Int, partsOf j ≠ 0 → k0 ≠ j := fun j hj e => by subst e; exact hj h3
    refine ⟨fun h => by omega, fun h => by omega, fun h => ?_, fun h => ?_, fun h => ?_, fun h => ?_, fun h => ?_, fun h => ?_, fun h => ?_⟩
    · rw [htv, if_pos h]; simp
    · subst h; rw [htv]; simp [aheadB]
    · subst h; rw [htv]; simp [aheadB]
    · subst h; rw [htv]; simp [aheadB]
    · exact absurd h (hnp 10 (by decide))
    · exact absurd h (hnp 8 (by decide))
    · exact absurd h (hnp 9 (by decide))
  | n1 k0 v0 a ih =>
    intro pre post ea eb ta tb he hta i hi k v hkv
    obtain ⟨h1, h2, h3, h4⟩ := ht
    have hfl := a.flat_len
    have hel := a.ends_len (pre.length + 1)
    have hsz := a.size_pos
    have htl := tvT_len L c a (cntA (pre ++ [(k0, v0)]))
    have hcn : cntA (pre ++ [(k0, v0)]) = cntA pre + (if aheadB k0 then 1 else 0) := by rw [cntA_app]; simp [cntA]
    have e1 : pre ++ Tm.flat (.n1 k0 v0 a) ++ post = (pre ++ [(k0, v0)]) ++ a.flat ++ post := by simp [Tm.flat]
    have e2 : ea ++ Tm.ends (.n1 k0 v0 a) pre.length ++ eb = (ea ++ [((pre.length + 1 + a.size : Nat) : Int)]) ++ a.ends (pre ++ [(k0, v0)]).length ++ eb := by simp [Tm.ends]
    obtain ⟨h0, hh0⟩ : ∃ x, x = (if aheadB k0 then c.testBit (cntA pre) else !(tvT L c a (cntA (pre ++ [(k0, v0)]))).headD false) := ⟨_, rfl⟩
    have e3 : ta ++ tvT L c (.n1 k0 v0 a) (cntA pre) ++ tb = (ta ++ [h0]) ++ tvT L c a (cntA (pre ++ [(k0, v0)])) ++ tb := by rw [hh0, hcn]; simp [tvT]
    rw [e1] at hkv
    rw [e1, e2, e3]
    by_cases hi0 : i = 0
    · subst hi0
      have hkv' : k0 = k ∧ v0 = v := by simpa using hkv
      obtain ⟨rfl, rfl⟩ := hkv'
      have hat : ((ta ++ [h0]) ++ tvT L c a (cntA (pre ++ [(k0, v0)])) ++ tb)[pre.length + 0]? = some h0 := by rw [Nat.add_zero, ← hta]; simp
      have hnx : ((ta ++ [h0]) ++ tvT L c a (cntA (pre ++ [(k0, v0)])) ++ tb).getD (pre.length + 0 + 1) false = (tvT L c a (cntA (pre ++ [(k0, v0)]))).headD false := by
        have := getD_mid (ta ++ [h0]) (tvT L c a (cntA (pre ++ [(k0, v0)]))) tb (by omega)
        rw [← this]; simp [hta]
      have htk : ((pre ++ [(k0, v0)]) ++ a.flat ++ post).take (pre.length + 0) = pre := by simp
      have hnp : ∀ j : Int, partsOf j ≠ 1 → k0 ≠ j := fun j hj e => by subst e; exact hj h3
      refine ⟨fun h => by simp; omega, fun h => by omega, fun h => ?_, fun h => absurd h (hnp 13 (by decide)), fun h => absurd h (hnp 11 (by decide)), fun h => absurd h (hnp 12 (by decide)), fun h => ?_, fun h => absurd h (hnp 8 (by decide)), fun h => absurd h (hnp 9 (by decide))⟩
      · rw [hat, htk, hh0, if_pos h]
      · rw [hat, hnx, hh0]
        have : aheadB k0 = false := by subst h; decide
        rw [this]; rfl
    · have := ih h4 (pre ++ [(k0, v0)]) post (ea ++ [((pre.length + 1 + a.size : Nat) : Int)]) eb (ta ++ [h0]) tb (by simp [he]) (by simp [hta]) (i - 1) (by simp only [Tm.size] at hi; omega) k v (by
        rw [show (pre ++ [(k0, v0)]).length + (i - 1) = pre.length + i by simp; omega]; exact hkv)
      rw [show (pre ++ [(k0, v0)]).length + (i - 1) = pre.length + i by simp; omega] at this
      exact this
  | n2 k0 v0 x y ih1 ih2 =>
    intro pre post ea eb ta tb he hta i hi k v hkv
    obtain ⟨h1, h2, h3, h4, h5⟩ := ht
    have hfx := x.flat_len
    have hfy := y.flat_len
    have hsx := x.size_pos
    have hsy := y.size_pos
    have hex := x.ends_len (pre.length + 1)
    have hlx := tvT_len L c x (cntA (pre ++ [(k0, v0)]))
    have hly := tvT_len L c y (cntA (pre ++ [(k0, v0)] ++ x.flat))
    have hcx : cntA (pre ++ [(k0, v0)]) = cntA pre + (if aheadB k0 then 1 else 0) := by rw [cntA_app]; simp [cntA]
    have hcy : cntA (pre ++ [(k0, v0)] ++ x.flat) = cntA pre + (if aheadB k0 then 1 else 0) + cntA x.flat := by rw [cntA_app, hcx]
    have e1 : pre ++ Tm.flat (.n2 k0 v0 x y) ++ post = (pre ++ [(k0, v0)]) ++ x.flat ++ (y.flat ++ post) := by simp [Tm.flat]
    have e1' : pre ++ Tm.flat (.n2 k0 v0 x y) ++ post = (pre ++ [(k0, v0)] ++ x.flat) ++ y.flat ++ post := by simp [Tm.flat]
    obtain ⟨E0, hE0⟩ : ∃ e, e = ((pre.length + 1 + x.size + y.size : Nat) : Int) := ⟨_, rfl⟩
    have e2 : ea ++ Tm.ends (.n2 k0 v0 x y) pre.length ++ eb = (ea ++ [E0]) ++ x.ends (pre ++ [(k0, v0)]).length ++ (y.ends (pre.length + 1 + x.size) ++ eb) := by simp [Tm.ends, hE0]
    have e2' : ea ++ Tm.ends (.n2 k0 v0 x y) pre.length ++ eb = (ea ++ [E0] ++ x.ends (pre.length + 1)) ++ y.ends (pre ++ [(k0, v0)] ++ x.flat).length ++ eb := by
      rw [show (pre ++ [(k0, v0)] ++ x.flat).length = pre.length + 1 + x.size by simp [hfx]; omega]
      simp [Tm.ends, hE0]
    obtain ⟨h0, hh0⟩ : ∃ z, z = (if aheadB k0 then c.testBit (cntA pre) else if k0 = 8 then (tvT L c x (cntA (pre ++ [(k0, v0)]))).headD false && (tvT L c y (cntA (pre ++ [(k0, v0)] ++ x.flat))).headD false
      else (tvT L c x (cntA (pre ++ [(k0, v0)]))).headD false || (tvT L c y (cntA (pre ++ [(k0, v0)] ++ x.flat))).headD false) := ⟨_, rfl⟩
    have e3 : ta ++ tvT L c (.n2 k0 v0 x y) (cntA pre) ++ tb = (ta ++ [h0]) ++ tvT L c x (cntA (pre ++ [(k0, v0)])) ++ (tvT L c y (cntA (pre ++ [(k0, v0)] ++ x.flat)) ++ tb) := by rw [hh0, hcx, hcy]; simp [tvT]
    have e3' : ta ++ tvT L c (.n2 k0 v0 x y) (cntA pre) ++ tb = (ta ++ [h0] ++ tvT L c x (cntA (pre ++ [(k0, v0)]))) ++ tvT L c y (cntA (pre ++ [(k0, v0)] ++ x.flat)) ++ tb := by rw [e3]; simp
    by_cases hi0 : i = 0
    · subst hi0
      rw [e1] at hkv
      rw [e1, e2, e3]
      have hkv' : k0 = k ∧ v0 = v := by simpa using hkv
      obtain ⟨rfl, rfl⟩ := hkv'
      have hat : ((ta ++ [h0]) ++ tvT L c x (cntA (pre ++ [(k0, v0)])) ++ (tvT L c y (cntA (pre ++ [(k0, v0)] ++ x.flat)) ++ tb))[pre.length + 0]? = some h0 := by rw [Nat.add_zero, ← hta]; simp
      have hnx : ((ta ++ [h0]) ++ tvT L c x (cntA (pre ++ [(k0, v0)])) ++ (tvT L c y (cntA (pre ++ [(k0, v0)] ++ x.flat)) ++ tb)).getD (pre.length + 0 + 1) false = (tvT L c x (cntA (pre ++ [(k0, v0)]))).headD false := by
        have := getD_mid (ta ++ [h0]) (tvT L c x (cntA (pre ++ [(k0, v0)]))) (tvT L c y (cntA (pre ++ [(k0, v0)] ++ x.flat)) ++ tb) (by omega)
        rw [← this]; simp [hta]
      have hes : ((ea ++ [E0]) ++ x.ends (pre ++ [(k0, v0)]).length ++ (y.ends (pre.length + 1 + x.size) ++ eb))[pre.length + 0 + 1]? = some (((pre.length + 1 + x.size : Nat)) : Int) := by
        have hz := ends_zero x (pre.length + 1) (by rw [hex]; exact hsx)
        have hl2 : (pre ++ [(k0, v0)]).length = pre.length + 1 := by simp
        rw [hl2, List.append_assoc, List.getElem?_append_right (by simp [he]), List.getElem?_append_left (by rw [hex]; simp [he]; exact hsx)]
        rw [show pre.length + 0 + 1 - (ea ++ [E0]).length = 0 by simp [he], List.getElem?_eq_getElem (by rw [hex]; exact hsx), hz]
      have hsec : secAt ((ea ++ [E0]) ++ x.ends (pre ++ [(k0, v0)]).length ++ (y.ends (pre.length + 1 + x.size) ++ eb)) (pre.length + 0) = pre.length + 1 + x.size := by
        unfold secAt
        rw [List.getD, hes]
        show ((pre.length + 1 + x.size : Nat) : Int).toNat = _
        omega
      have hny : ((ta ++ [h0]) ++ tvT L c x (cntA (pre ++ [(k0, v0)])) ++ (tvT L c y (cntA (pre ++ [(k0, v0)] ++ x.flat)) ++ tb)).getD (pre.length + 1 + x.size) false = (tvT L c y (cntA (pre ++ [(k0, v0)] ++ x.flat))).headD false := by
        have := getD_mid (ta ++ [h0] ++ tvT L c x (cntA (pre ++ [(k0, v0)]))) (tvT L c y (cntA (pre ++ [(k0, v0)] ++ x.flat))) tb (by omega)
        rw [← this]
        congr 1
        · simp
        · simp [hta, hlx]; omega
      have htk : ((pre ++ [(k0, v0)]) ++ x.flat ++ (y.flat ++ post)).take (pre.length + 0) = pre := by simp
      have hnp : ∀ j : Int, partsOf j ≠ 2 → k0 ≠ j := fun j hj e => by subst e; exact hj h3
      refine ⟨fun h => by simp; omega, fun h => ?_, fun h => ?_, fun h => absurd h (hnp 13 (by decide)), fun h => absurd h (hnp 11 (by decide)), fun h => absurd h (hnp 12 (by decide)), fun h => absurd h (hnp 10 (by decide)), fun h => ?_, fun h => ?_⟩
      · rw [hsec]
        exact ⟨hes, by omega, by simp; omega⟩
      · rw [hat, htk, hh0, if_pos h]
      · rw [hat, hnx, hsec, hny, hh0]
        have : aheadB k0 = false := by subst h; decide
        rw [this, if_pos h]; rfl
      · rw [hat, hnx, hsec, hny, hh0]
        have : aheadB k0 = false := by subst h; decide
        rw [this, if_neg (show ¬ k0 = 8 by omega)]; rfl
    · by_cases hix : i - 1 < x.size
      · rw [e1] at hkv
        rw [e1, e2, e3]
        have := ih1 h4 (pre ++ [(k0, v0)]) (y.flat ++ post) (ea ++ [E0]) (y.ends (pre.length + 1 + x.size) ++ eb) (ta ++ [h0]) (tvT L c y (cntA (pre ++ [(k0, v0)] ++ x.flat)) ++ tb) (by simp [he]) (by simp [hta]) (i - 1) hix k v (by
          rw [show (pre ++ [(k0, v0)]).length + (i - 1) = pre.length + i by simp; omega]; exact hkv)
        rw [show (pre ++ [(k0, v0)]).length + (i - 1) = pre.length + i by simp; omega] at this
        exact this
      · rw [e1'] at hkv
        rw [e1', e2', e3']
        have hpl : (pre ++ [(k0, v0)] ++ x.flat).length + (i - 1 - x.size) = pre.length + i := by simp [hfx]; omega
        have := ih2 h5 (pre ++ [(k0, v0)] ++ x.flat) post (ea ++ [E0] ++ x.ends (pre.length + 1)) eb (ta ++ [h0] ++ tvT L c x (cntA (pre ++ [(k0, v0)]))) tb (by simp [he, hex, hfx]) (by simp [hta, hlx, hfx]) (i - 1 - x.size) (by simp only [Tm.size] at hi; omega) k v (by rw [hpl]; exact hkv)
        rw [hpl] at this
        exact this

end Go.Proofs.YtkkbefhnklpfaaaDoor

namespace Go.Proofs.YtkkbefhnklpfaaaDoor
open Go.RowKit

theorem i64_wrap_small (n : Nat) (h : n < 9223372036854775808) : IntKind.i64.wrap (n : Int) = (n : Int) := by
  have e : (n : Int) % 2 ^ 64 = n := Int.emod_eq_of_lt (by omega) (by omega)
  simp only [IntKind.wrap, IntKind.bits, IntKind.signed, e]
  rw [if_neg]
  simp
  omega

theorem i64_ofInt (n : Nat) (h : n < 18446744073709551616) : (BitVec.ofInt 64 (n : Int)).toNat = n := by
  rw [BitVec.toNat_ofInt]
  omega

theorem i64_or_nat (a b : Nat) (ha : a < 9223372036854775808) (hb : b < 9223372036854775808) : bits .or .i64 (a : Int) (b : Int) = ((a ||| b : Nat) : Int) := by
  show IntKind.i64.wrap ((BitVec.ofInt 64 (a : Int) ||| BitVec.ofInt 64 (b : Int)).toNat : Int) = _
  rw [BitVec.toNat_or, i64_ofInt a (by omega), i64_ofInt b (by omega)]
  exact i64_wrap_small _ (Nat.or_lt_two_pow (n := 63) ha hb)

theorem i64_and_nat (a b : Nat) (ha : a < 9223372036854775808) (hb : b < 9223372036854775808) : bits .and .i64 (a : Int) (b : Int) = ((a &&& b : Nat) : Int) := by
  show IntKind.i64.wrap ((BitVec.ofInt 64 (a : Int) &&& BitVec.ofInt 64 (b : Int)).toNat : Int) = _
  rw [BitVec.toNat_and, i64_ofInt a (by omega), i64_ofInt b (by omega)]
  exact i64_wrap_small _ (Nat.lt_of_le_of_lt Nat.and_le_left ha)

theorem i64_xor_nat (a b : Nat) (ha : a < 9223372036854775808) (hb : b < 9223372036854775808) : bits .xor .i64 (a : Int) (b : Int) = ((a ^^^ b : Nat) : Int) := by
  show IntKind.i64.wrap ((BitVec.ofInt 64 (a : Int) ^^^ BitVec.ofInt 64 (b : Int)).toNat : Int) = _
  rw [BitVec.toNat_xor, i64_ofInt a (by omega), i64_ofInt b (by omega)]
  exact i64_wrap_small _ (Nat.xor_lt_two_pow (n := 63) ha hb)

/-- What lies apart is added. -/
theorem or_add (a b i : Nat) (hb : b < 2 ^ i) : (a * 2 ^ i) ||| b = a * 2 ^ i + b := by
  rw [Nat.mul_comm]
  exact (Nat.two_pow_add_eq_or_of_lt hb a).symm

end Go.Proofs.YtkkbefhnklpfaaaDoor

namespace Go.Proofs.YtkkbefhnklpfaaaDoor
open Go.RowKit

theorem Tryd.slBools : SlTy Tryd.prog 73 4 (.bool false) 1 1 := SlTy.mk' Tryd.underlying73 (by kernel_rfl) (by rfl) (by omega)

/-- Truths from a place on; ahead of it nothing yet. -/
def mixL (tv : List Bool) (i : Nat) : List Bool := List.replicate i false ++ tv.drop i
theorem mixL_len {tv : List Bool} {i : Nat} (h : i ≤ tv.length) : (mixL tv i).length = tv.length := by simp [mixL]; omega
theorem mixL_get {tv : List Bool} {i j : Nat} (hj : i ≤ j) : (mixL tv i)[j]? = tv[j]? := by
  rw [mixL, List.getElem?_append_right (by simpa using hj), List.length_replicate, List.getElem?_drop]
  congr 1; omega
theorem mixL_at {tv : List Bool} {i : Nat} : (mixL tv (i + 1))[i]? = some false := by
  rw [mixL, List.getElem?_append_left (by simp), List.getElem?_replicate, if_pos (by omega)]
theorem mixL_set {tv : List Bool} {i : Nat} {b : Bool} (h : tv[i]? = some b) : (mixL tv (i + 1)).set i b = mixL tv i := by
  obtain ⟨hl, he⟩ := List.getElem?_eq_some_iff.1 h
  apply List.ext_getElem?
  intro j
  rw [List.getElem?_set]
  by_cases hij : i = j
  · subst hij
    rw [if_pos rfl, if_pos (by rw [mixL_len (by omega)]; exact hl), mixL_get (Nat.le_refl _), h]
  · rw [if_neg hij]
    by_cases hlt : i < j
    · rw [mixL_get (by omega), mixL_get (by omega)]
    · rw [mixL, mixL, List.getElem?_append_left (by simp; omega), List.getElem?_append_left (by simp; omega), List.getElem?_replicate, List.getElem?_replicate, if_pos (by omega), if_pos (by omega)]
theorem mixL_no {tv : List Bool} {i : Nat} (h : tv[i]? = some false) : mixL tv (i + 1) = mixL tv i := by
  have := mixL_set h
  rw [← this]
  apply List.ext_getElem?
  intro j
  rw [List.getElem?_set]
  by_cases hij : i = j
  · subst hij
    obtain ⟨hl, _⟩ := List.getElem?_eq_some_iff.1 h
    rw [if_pos rfl, if_pos (by rw [mixL_len (by omega)]; exact hl), mixL_at]
  · rw [if_neg hij]

theorem own_bool {w : World} {base D n cap i : Nat} {l : List Bool} {x : Bool} (h : w.ownsRow base 4 1 (.slice (some ⟨D, 0, none⟩) n cap) n (l.map .bool)) (hi : l[i]? = some x) : w.cell? ⟨D, i, none⟩ = some (.bool x) := by
  obtain ⟨hl, e⟩ := List.getElem?_eq_some_iff.1 hi
  refine (own_cellAt h (i := i) (by simpa using hl)).trans ?_
  rw [List.getElem_map, e]

theorem row_ints {α : Type} {f : α → Value} {w : World} {a : Option Addr} {n c : Nat} {l : List α} (h : Row w 1 a n c (l.map f)) : ∃ b off, (0 < l.length → a = some ⟨b, off, none⟩) ∧ ∀ (i : Nat) (x : α), l[i]? = some x → w.cell? ⟨b, off + i, none⟩ = some (f x) := by
  obtain ⟨b, off, _, h2, h3⟩ := h.lie
  exact ⟨b, off, fun hl => h2 (by simpa using hl), fun i x hi => h3 i _ (by rw [List.getElem?_map, hi]; rfl)⟩

set_option maxRecDepth 100000 in
theorem tru1_any (w : World) (O D A n at' : Nat) (b : Bool) (hO : w.heap[O]? = some (.cells #[.slice (some ⟨D, 0, none⟩) n n] 73 (0, 0))) (hA : w.heap[A]? = some (.cells #[.int .i64 (at' : Int)] 3 (0, 0)))
    (hc : w.cell? ⟨D, at' + 1, none⟩ = some (.bool b)) (hn : at' + 1 < n) (hn6 : n ≤ 60) :
    Calls Tryd.prog 54 #[.pointer (some ⟨O, 0, none⟩), .pointer (some ⟨A, 0, none⟩)] w fun e w' => e = .returned (.bool b) ∧ w = w' := by
  have cO := blk_cell hO (i := 0) rfl
  have cA := blk_cell hA (i := 0) rfl
  have hnI : (at' : Int) + 1 < (n : Int) := by omega
  have hn0 : (0 : Int) ≤ (at' : Int) + 1 := by omega
  have hto : ((at' : Int) + 1).toNat = at' + 1 := by omega
  clear hO hA
  go_enter Tryd.func54, Tryd.ntmps54
  go_wp2
  go_ret
  exact ⟨rfl, rfl⟩

set_option maxRecDepth 100000 in
theorem tru2_any (w : World) (O D E A n at' s : Nat) (ae : Option Addr) (ce ne : Nat) (es : List Int) (b : Bool) (hO : w.heap[O]? = some (.cells #[.slice (some ⟨D, 0, none⟩) n n] 73 (0, 0))) (hA : w.heap[A]? = some (.cells #[.int .i64 (at' : Int)] 3 (0, 0)))
    (hE : w.heap[E]? = some (.cells #[.slice ae ne ce] 57 (0, 0))) (hes : Row w 1 ae ne ce (es.map (.int .i64))) (he : es[at' + 1]? = some (s : Int))
    (hc : w.cell? ⟨D, s, none⟩ = some (.bool b)) (hs : s < n) (ha : at' < 60) :
    Calls Tryd.prog 55 #[.pointer (some ⟨O, 0, none⟩), .pointer (some ⟨E, 0, none⟩), .pointer (some ⟨A, 0, none⟩)] w fun e w' => e = .returned (.bool b) ∧ ∃ q, w' = w.drewN q := by
  have cO := blk_cell hO (i := 0) rfl
  have cA := blk_cell hA (i := 0) rfl
  have cE := blk_cell hE (i := 0) rfl
  have hel : es.length = ne := by have := hes.len; simpa using this
  obtain ⟨hl, he'⟩ := List.getElem?_eq_some_iff.1 he
  obtain ⟨bb, oo, h1, h3⟩ := row_ints hes
  obtain rfl := h1 (by omega)
  have cN := h3 _ _ he
  have hnI : (at' : Int) + 1 < (ne : Int) := by omega
  have hn0 : (0 : Int) ≤ (at' : Int) + 1 := by omega
  have hto : ((at' : Int) + 1).toNat = at' + 1 := by omega
  have hsI : (s : Int) < (n : Int) := by omega
  have hs0 : (0 : Int) ≤ (s : Int) := by omega
  clear hO hA hE h1 h3 he he' hes hel
  go_enter Tryd.func55, Tryd.ntmps55
  go_wp2_with fail
  go_quiet (fail)
  go_wp2
  go_ret
  exact ⟨rfl, _, rfl⟩

/-- Where Truths lies at. -/
structure TM (W2 w : World) (O D A n : Nat) (tv : List Bool) (i : Nat) : Prop where
  ext : Ext W2 w
  o : w.heap[O]? = some (.cells #[.slice (some ⟨D, 0, none⟩) n n] 73 (0, 0))
  a : w.heap[A]? = some (.cells #[.int .i64 ((i : Int) - 1)] 3 (0, 0))
  row : w.ownsRow W2.heap.size 4 1 (.slice (some ⟨D, 0, none⟩) n n) n ((mixL tv i).map .bool)
  oa : A ≠ O
  od : O ≠ D
  ad : A ≠ D
  lo : W2.heap.size ≤ O
  la : W2.heap.size ≤ A

theorem TM.drew {W2 w : World} {O D A n : Nat} {tv : List Bool} {i : Nat} (h : TM W2 w O D A n tv i) (q : Nat) : TM W2 (w.drewN q) O D A n tv i :=
  ⟨below_drewN h.ext q, blk_ext h.o (below_drewN (Ext.refl _) q), blk_ext h.a (below_drewN (Ext.refl _) q), own_ext h.row (below_drewN (Ext.refl _) q), h.oa, h.od, h.ad, h.lo, h.la⟩
theorem TM.put {W2 w : World} {O D A n : Nat} {tv : List Bool} {i : Nat} {b : Bool} (h : TM W2 w O D A n tv (i + 1)) (hb : tv[i]? = some b) :
    let w1 := w.setCell ⟨D, i, none⟩ (.bool b)
    Ext W2 w1 ∧ w1.heap[O]? = some (.cells #[.slice (some ⟨D, 0, none⟩) n n] 73 (0, 0)) ∧ w1.ownsRow W2.heap.size 4 1 (.slice (some ⟨D, 0, none⟩) n n) n ((mixL tv i).map .bool) := by
  have hD := (h.row.lt D rfl).1
  refine ⟨ext_st h.ext (p := ⟨D, i, none⟩) hD _, blk_far h.o (p := ⟨D, i, none⟩) (Ne.symm h.od) _, ?_⟩
  have := own_setAt h.row (i := i) (.bool b)
  rw [← List.map_set, mixL_set hb] at this
  exact this

theorem TM.later {W2 w w' : World} {O D A n : Nat} {tv : List Bool} {i : Nat} (h : TM W2 w O D A n tv i) (hE : Ext w w') : TM W2 w' O D A n tv i :=
  ⟨h.ext.trans hE, blk_ext h.o hE, blk_ext h.a hE, own_ext h.row hE, h.oa, h.od, h.ad, h.lo, h.la⟩

/-- One place further to the front. -/
theorem TM.next {W2 w : World} {O D n j A' : Nat} {tv : List Bool} (hE : Ext W2 w) (ho : w.heap[O]? = some (.cells #[.slice (some ⟨D, 0, none⟩) n n] 73 (0, 0))) (hr : w.ownsRow W2.heap.size 4 1 (.slice (some ⟨D, 0, none⟩) n n) n ((mixL tv j).map .bool)) (od : O ≠ D) (lo : W2.heap.size ≤ O) (hA : A' = w.heap.size) :
    TM W2 (w.alloc (.cells #[.int .i64 ((j : Int) - 1)] 3)) O D A' n tv j := by
  subst hA
  have hO := blk_lt ho
  have hD := (hr.lt D rfl).2
  have hx := ext_al (Ext.refl w) (Obj.cells #[.int .i64 ((j : Int) - 1)] 3)
  exact ⟨hE.trans hx, blk_ext ho hx, blk_new w _, own_ext hr hx, by omega, od, by omega, lo, hE.size⟩
theorem TM.fin {W2 w w' W5 : World} {O D A n j A' : Nat} {tv : List Bool} {b : Bool} (h : TM W2 w O D A n tv (j + 1)) (hx : Ext w w') (hb : tv[j]? = some b) (h5 : W5 = w'.setCell ⟨D, j, none⟩ (.bool b)) (hA : A' = W5.heap.size) :
    TM W2 (W5.alloc (.cells #[.int .i64 ((j : Int) - 1)] 3)) O D A' n tv j := by
  obtain ⟨p1, p2, p3⟩ := (h.later hx).put hb
  subst h5
  exact TM.next p1 p2 p3 h.od h.lo hA
theorem TM.same {W2 w : World} {O D A n j A' : Nat} {tv : List Bool} (h : TM W2 w O D A n tv (j + 1)) (hb : tv[j]? = some false) (hA : A' = w.heap.size) :
    TM W2 (w.alloc (.cells #[.int .i64 ((j : Int) - 1)] 3)) O D A' n tv j := by
  have hr := h.row
  rw [mixL_no hb] at hr
  exact TM.next h.ext h.o hr h.od h.lo hA

theorem tv_at (L : List Bool) (c : Nat) (t : Tm) (ht : t.ok) (i : Nat) (k v : Int) (h : t.flat[i]? = some (k, v)) : TvAt L c t.flat (t.ends 0) (tvT L c t 0) i k v := by
  obtain ⟨hl, _⟩ := List.getElem?_eq_some_iff.1 h
  have := tv_law L c t ht [] [] [] [] [] [] rfl rfl i (by rw [← Tm.flat_len]; exact hl) k v (by simpa using h)
  simpa [cntA] using this

theorem bit_shr (c n : Nat) (hc : c < 64) : (bits .and .i64 ((c : Int) / 2 ^ n) 1 == 1) = c.testBit n := by
  have e : (c : Int) / 2 ^ n = ((c / 2 ^ n : Nat) : Int) := by push_cast; rfl
  have hle : c / 2 ^ n ≤ c := Nat.div_le_self _ _
  have h := i64_and_nat (c / 2 ^ n) 1 (by omega) (by omega)
  rw [e, show (1 : Int) = ((1 : Nat) : Int) from rfl, h, Nat.and_one_is_mod, Nat.testBit_eq_decide_div_mod_eq, Bool.eq_iff_iff, beq_iff_eq, decide_eq_true_eq]
  omega

theorem getD_some {l : List Bool} {i : Nat} (h : i < l.length) : l[i]? = some (l.getD i false) := by simp [List.getD, List.getElem?_eq_getElem h]

set_option maxRecDepth 100000 in
set_option maxHeartbeats 8000000 in
theorem truths_any (v : Value) (l : List Op2) (t : Tm) (vl : Value) (L : List Bool) (c : Nat) (w : World) (h : Ops w v l) (ht : Tab w) (hf : IsF l (L.length : Int) t) (hL : Bools w vl L) (hc : c < 2 ^ cntA l) :
    Calls Tryd.prog 34 #[v, vl, .int .i64 (c : Int)] w fun e w' => ∃ D, e = .returned (.tuple #[.slice (some ⟨D, 0, none⟩) l.length l.length, .int .i64 0]) ∧ w'.ownsRow w.heap.size 4 1 (.slice (some ⟨D, 0, none⟩) l.length l.length) l.length ((tvT L c t 0).map .bool) ∧ Ext w w' := by
  have hen := ends_term t hf.ok hf.small
  rw [hf.flat] at hen
  have HPL := Lib.hid (places_any v l (L.length : Int) t w h ht hf)
  have HEN := Lib.hid fun wx (hx : Ext w wx) => by have H := ends_any v l wx (h.ext hx) (ht.ext hx); rw [hen] at H; exact H
  have hl60 : l.length ≤ 60 := by rw [← hf.flat, Tm.flat_len]; exact hf.small
  have hpos : 0 < l.length := by rw [← hf.flat, Tm.flat_len]; exact t.size_pos
  have htl : (tvT L c t 0).length = l.length := by rw [tvT_len, ← Tm.flat_len, hf.flat]
  have hel : (t.ends 0).length = l.length := by rw [Tm.ends_len, ← Tm.flat_len, hf.flat]
  have HTV := Lib.hid fun i k v (hi : l[i]? = some (k, v)) => by have := tv_at L c t hf.ok i k v (by rw [hf.flat]; exact hi); rw [hf.flat] at this; exact this
  obtain ⟨a, cap, rfl, hr⟩ := h
  obtain ⟨al, cl, rfl, hrl⟩ := hL
  have HR := Lib.hid hr
  have HRL := Lib.hid hrl
  have HF := Lib.hid hf
  have hpl := plL_len l
  have hc6 := hf.cnt
  have hcp : 2 ^ cntA l ≤ 2 ^ 6 := Nat.pow_le_pow_right (by omega) hc6
  have hpe : ((2 ^ cntA l : Nat) : Int) = (2 : Int) ^ cntA l := by push_cast; rfl
  have hw0 : IntKind.i64.wrap ((2 : Int) ^ cntA l) = (2 : Int) ^ cntA l := IntWalk.i64_in _ (by omega)
  obtain ⟨PM, hPM⟩ : ∃ PM, (2 : Int) ^ cntA l = PM := ⟨_, rfl⟩
  rw [hPM] at hpe
  replace hw0 := hw0.trans hPM
  have hcI : ¬ PM ≤ (c : Int) := by omega
  have hc0 : ¬ (c : Int) < 0 := by omega
  generalize t.ends 0 = es at *
  generalize tvT L c t 0 = tv at *
  have hmf : ∀ (fn : Fn) (first cap : Array Value) (w : World), (Instr.makeFunc fn first cap).run Tryd.prog w = .ok (.func fn first cap) w := fun _ _ _ _ => rfl
  have HTL := Lib.hid htl
  have HEL := Lib.hid hel
  have hc64 : c < 64 := by omega
  clear hen hf hr hrl ht htl hel hpe hcp hc hPM
  rw [hpl] at HPL
  clear hpl
  generalize hcn : cntA l = N at *
  have HCN := Lib.hid hcn
  clear hcn
  have HLL := Lib.hid fun i (hi : i < l.length) => cntA_take l hi
  have HCT := Lib.hid (show cntA (l.take l.length) = N by rw [List.take_length]; exact HCN.out)
  go_enter Tryd.func34, Tryd.ntmps34
  go_wp2_with fail
  refine HPL.out.mono ?_
  rintro e w1 ⟨ap, cp, rfl, -, hE1⟩
  have HE1 := Lib.hid hE1
  clear hE1 HPL
  go_wp2_with fail
  refine (HEN.out _ HE1.out).mono ?_
  rintro e w2 ⟨hE2, v2, rfl, hown2⟩
  obtain ⟨ae, ce, rfl, hre⟩ := hown2.row
  have hx := ext_al (Ext.refl w2) (Obj.cells #[.slice ae es.length ce] 57)
  have HRE := Lib.hid (hre.ext hx)
  have BE := Lib.hid (blk_new w2 (Obj.cells #[.slice ae es.length ce] 57))
  have HE2 := Lib.hid ((HE1.out.trans hE2).trans hx)
  clear hown2 hre hE2 hx HEN HE1
  go_wp2_with (at_make; go_must (refine wpList_make_full _ rfl _ _ 73 rfl (w2.heap.size + 1) 4 (Tryd.slBools.inf.choose) (.bool false) 1 Tryd.underlying73 Tryd.slBools.inf.choose_spec.1 Tryd.slBools.inf.choose_spec.2.1 Tryd.slBools.inf.choose_spec.2.2.1 .i64 .i64 l.length l.length l.length rfl rfl rfl rfl (by rw [Tryd.slBools.inf.choose_spec.2.2.2]; omega) (by unfold maxLen; omega) (by simp) ?_))
  intro w3 hown3 hg3
  have hmx : (madeCells #[Value.bool false] l.length).toList = (mixL tv l.length).map .bool := by
    rw [toList_madeCells_one, mixL, List.drop_of_length_le (by rw [HTL.out]; exact Nat.le_refl _), List.append_nil, List.map_replicate]
  rw [hmx] at hown3
  have hW2 : (w2.alloc (Obj.cells #[.slice ae es.length ce] 57)).heap.size = w2.heap.size + 1 := by simp
  have hE3 : Ext (w2.alloc (Obj.cells #[.slice ae es.length ce] 57)) w3 := (Ext.refl _).grown hg3 (Nat.le_refl _) (by simp)
  have hD3 : w2.heap.size + 1 < w3.heap.size := (hown3.lt _ rfl).2
  have hxO := ext_al (Ext.refl w3) (Obj.cells #[.slice (some ⟨w2.heap.size + 1, 0, none⟩) l.length l.length] 73)
  have bO := blk_new w3 (Obj.cells #[.slice (some ⟨w2.heap.size + 1, 0, none⟩) l.length l.length] 73)
  have hTM : TM (w2.alloc (Obj.cells #[.slice ae es.length ce] 57)) ((w3.alloc (Obj.cells #[.slice (some ⟨w2.heap.size + 1, 0, none⟩) l.length l.length] 73)).alloc (Obj.cells #[.int .i64 ((l.length : Int) - 1)] 3)) w3.heap.size (w2.heap.size + 1) (w3.heap.size + 1) l.length tv l.length :=
    ⟨ext_al (hE3.trans hxO) _, blk_ext bO (ext_al (Ext.refl _) _), by
      have := blk_new (w3.alloc (Obj.cells #[.slice (some ⟨w2.heap.size + 1, 0, none⟩) l.length l.length] 73)) (Obj.cells #[.int .i64 ((l.length : Int) - 1)] 3)
      rw [show (w3.alloc (Obj.cells #[.slice (some ⟨w2.heap.size + 1, 0, none⟩) l.length l.length] 73)).heap.size = w3.heap.size + 1 by simp] at this
      exact this, own_ext (by rw [hW2]; exact hown3) (ext_al hxO _), by omega, by omega, by omega, by rw [hW2]; omega, by rw [hW2]; omega⟩
  have HTM := Lib.hid hTM
  clear hown3 hg3 hmx hE3 hD3 hxO bO hTM
  go_wp2_with fail
  generalize (w3.alloc (Obj.cells #[.slice (some ⟨w2.heap.size + 1, 0, none⟩) l.length l.length] 73)).alloc (Obj.cells #[.int .i64 ((l.length : Int) - 1)] 3) = W5 at *
  generalize w3.heap.size + 1 = A0 at *
  generalize w3.heap.size = O at *
  generalize w2.alloc (Obj.cells #[.slice ae es.length ce] 57) = W2 at *
  generalize w2.heap.size + 1 = D at *
  generalize w2.heap.size = E at *
  clear hW2
  go_loopg [13, 14] l.length (fun m x y wr => ∃ (i A : Nat), m = i ∧ i ≤ l.length ∧ x = .int .i64 (cntA (l.take i) : Int) ∧ y = .pointer (some ⟨A, 0, none⟩) ∧ TM W2 wr O D A l.length tv i)
  case atStart => exact ⟨l.length, A0, rfl, Nat.le_refl _, by rw [HCT.out], rfl, HTM.out⟩
  case round =>
    obtain ⟨i, A, hgi, hil, rfl, rfl, hT⟩ := hrel
    have HGI := Lib.hid hgi
    clear HTM hgi
    have HT := Lib.hid hT
    cases i with
    | zero =>
      have cA := blk_cell hT.a (i := 0) rfl
      have cO := blk_cell hT.o (i := 0) rfl
      have hr := hT.row
      have e : mixL tv 0 = tv := by simp [mixL]
      rw [e] at hr
      have HRW := Lib.hid hr
      have HEW := Lib.hid (HE2.out.trans hT.ext)
      have HSZ := Lib.hid HE2.out.size
      clear hT hr e
      go_wp2
      go_ret2
      exact ⟨D, rfl, own_down HRW.out HSZ.out, HEW.out⟩
    | succ j =>
      have hj : j < l.length := by omega
      have haj : ((j + 1 : Nat) : Int) - 1 = (j : Int) := by omega
      have ha := hT.a
      rw [haj] at ha
      have cA := blk_cell ha (i := 0) rfl
      have cO := blk_cell hT.o (i := 0) rfl
      have hEW := HE2.out.trans hT.ext
      obtain ⟨b, off, hb, hc⟩ := (HR.out.ext hEW).ops
      obtain rfl := hb hpos
      obtain ⟨k1, k2⟩ := hc j hj
      have htva := HTV.out j l[j].1 l[j].2 (List.getElem?_eq_getElem hj)
      obtain ⟨hf1, hf2, hf3, hf4⟩ := HF.out.fit l[j] (by simp)
      have HTA := Lib.hid htva
      have HA := Lib.hid ha
      have HCL := Lib.hid (HLL.out j hj)
      have hjI : (j : Int) < (l.length : Int) := by omega
      have hj0 : (0 : Int) ≤ (j : Int) := by omega
      have hcD := own_bool hT.row (i := j) mixL_at
      have hfD := own_freeAt hT.row j
      have hAO := hT.oa
      have hOD := hT.od
      have hAD := hT.ad
      have hDO : ¬ D = O := fun e => hOD e.symm
      have hDA : ¬ D = A := fun e => hAD e.symm
      have hnA : ∀ b : Bool, tv.getD (j + 1) false = b → j + 1 < l.length → wr.cell? ⟨D, j + 1, none⟩ = some (.bool b) := fun b hb h => by
        have := getD_some (l := tv) (i := j + 1) (by rw [HTL.out]; exact h)
        rw [hb] at this
        exact own_bool hT.row (by rw [mixL_get (Nat.le_refl _)]; exact this)
      have hnB : ∀ (b : Bool) (s : Nat), tv.getD s false = b → j + 1 < s → s < l.length → wr.cell? ⟨D, s, none⟩ = some (.bool b) := fun b s hb h1 h2 => by
        have := getD_some (l := tv) (i := s) (by rw [HTL.out]; exact h2)
        rw [hb] at this
        exact own_bool hT.row (by rw [mixL_get (by omega)]; exact this)
      have HF1 := Lib.hid fun (b : Bool) (hb : tv.getD (j + 1) false = b) (h : j + 1 < l.length) wx (hx : Ext wr wx) => tru1_any wx O D A l.length j b (blk_ext hT.o hx) (blk_ext ha hx) (cell_later hx (hnA b hb h)) h hl60
      have HF2 := Lib.hid fun (b : Bool) (s : Nat) (hb : tv.getD s false = b) (h1 : j + 1 < s) (h2 : s < l.length) (h3 : es[j + 1]? = some (s : Int)) wx (hx : Ext wr wx) => tru2_any wx O D E A l.length j s ae ce es.length es b (blk_ext hT.o hx) (blk_ext ha hx) (blk_ext BE.out (hT.ext.trans hx)) (HRE.out.ext (hT.ext.trans hx)) h3 (cell_later hx (hnB b s hb h1 h2)) h2 (by omega)
      clear hnA hnB
      generalize cntA (l.take (j + 1)) = cn1 at *
      generalize hcn0 : cntA (l.take j) = cn0 at *
      have HC0 := Lib.hid hcn0
      generalize hlj : l[j] = o at *
      obtain ⟨k, u⟩ := o
      simp only at k1 k2 hf1 hf2 hf3 hf4 HTA HCL
      have HLJ := Lib.hid hlj
      clear hc hb hT htva ha hcn0 hlj
      have hcase : k = 13 ∨ k = 11 ∨ k = 12 ∨ k = 10 ∨ k = 8 ∨ k = 9 ∨ 14 ≤ k := by omega
      rcases hcase with rfl | rfl | rfl | rfl | rfl | rfl | hk14
      · -- prop
        obtain ⟨h5, h6⟩ := hf3 rfl
        obtain ⟨un, rfl⟩ : ∃ un : Nat, u = (un : Int) := ⟨u.toNat, by omega⟩
        obtain ⟨bL, oL, hL1, hL2⟩ := row_ints (HRL.out.ext hEW)
        obtain rfl := hL1 (by omega)
        have cL := hL2 un _ (getD_some (by omega))
        have hpv := HTA.out.prop rfl
        rw [show ((un : Int)).toNat = un by omega] at hpv
        have HPV := Lib.hid hpv
        have hcc : cn1 = cn0 := HCL.out
        have HCC := Lib.hid hcc
        generalize L.getD un false = bb at *
        clear hpv hcc hL1 hL2 hf3 hf4 HF1 HF2
        go_wp2_with fail
        go_region
        all_goals
          go_wp2_with fail
          go_roundg j
          case measure => have := HGI.out; omega
          case rel => exact ⟨j, _, rfl, by omega, by rw [HCC.out, HC0.out], rfl, by first | exact HT.out.fin (w' := wr) (Ext.refl _) HPV.out rfl (by simp) | exact (HT.out.fin (w' := wr) (Ext.refl _) HPV.out rfl (by simp)).later (Below.drew (Ext.refl _)) | exact (HT.out.fin (w' := wr) (Ext.refl _) HPV.out rfl (by simp)).later (below_drewN (Ext.refl _) _)⟩
      · -- yes
        have HPV := Lib.hid (HTA.out.yes rfl)
        have hcc : cn1 = cn0 := HCL.out
        have HCC := Lib.hid hcc
        clear hcc hf3 hf4 HF1 HF2
        go_wp2_with fail
        go_roundg j
        case measure => have := HGI.out; omega
        case rel => exact ⟨j, _, rfl, by omega, by rw [HCC.out, HC0.out], rfl, by first | exact HT.out.fin (w' := wr) (Ext.refl _) HPV.out rfl (by simp) | exact (HT.out.fin (w' := wr) (Ext.refl _) HPV.out rfl (by simp)).later (Below.drew (Ext.refl _)) | exact (HT.out.fin (w' := wr) (Ext.refl _) HPV.out rfl (by simp)).later (below_drewN (Ext.refl _) _)⟩
      · -- no
        have HPV := Lib.hid (HTA.out.no rfl)
        have hcc : cn1 = cn0 := HCL.out
        have HCC := Lib.hid hcc
        clear hcc hf3 hf4 HF1 HF2
        go_wp2_with fail
        go_roundg j
        case measure => have := HGI.out; omega
        case rel => exact ⟨j, _, rfl, by omega, by rw [HCC.out, HC0.out], rfl, HT.out.same HPV.out rfl⟩
      · -- not
        have hpv := HTA.out.not rfl
        have hone := HTA.out.one (.inl rfl)
        obtain ⟨b1, hb1⟩ : ∃ b, tv.getD (j + 1) false = b := ⟨_, rfl⟩
        rw [hb1] at hpv
        have HFF := Lib.hid (HF1.out b1 hb1 hone)
        have HPV := Lib.hid hpv
        have hcc : cn1 = cn0 := HCL.out
        have HCC := Lib.hid hcc
        clear hcc hf3 hf4 HF1 HF2 hpv hone hb1
        go_wp2_with fail
        go_region_law (go_simp
                       go_at_call 54
                       refine (HFF.out _ (by first | exact Ext.refl _ | exact Below.drew (Ext.refl _))).mono ?_
                       rintro e wq ⟨rfl, rfl⟩)
        all_goals
          go_wp2_with fail
          go_roundg j
          case measure => have := HGI.out; omega
          case rel => exact ⟨j, _, rfl, by omega, by rw [HCC.out, HC0.out], rfl, by first | exact HT.out.fin (w' := wr) (Ext.refl _) HPV.out rfl (by simp) | exact (HT.out.fin (w' := wr) (Ext.refl _) HPV.out rfl (by simp)).later (Below.drew (Ext.refl _)) | exact (HT.out.fin (w' := wr) (Ext.refl _) HPV.out rfl (by simp)).later (below_drewN (Ext.refl _) _)⟩
      · -- and
        have hpv := HTA.out.and rfl
        have hone := HTA.out.one (.inr rfl)
        obtain ⟨ht1, ht2, ht3⟩ := HTA.out.two rfl
        obtain ⟨b1, hb1⟩ : ∃ b, tv.getD (j + 1) false = b := ⟨_, rfl⟩
        obtain ⟨s, hs⟩ : ∃ s, secAt es j = s := ⟨_, rfl⟩
        rw [hs] at hpv ht1 ht2 ht3
        obtain ⟨b2, hb2⟩ : ∃ b, tv.getD s false = b := ⟨_, rfl⟩
        rw [hb1, hb2] at hpv
        have HFF := Lib.hid (HF1.out b1 hb1 hone)
        have HSS := Lib.hid (HF2.out b2 s hb2 ht2 ht3 ht1)
        have hcc : cn1 = cn0 := HCL.out
        have HCC := Lib.hid hcc
        clear hcc hf3 hf4 HF1 HF2 hone hb1 hb2 ht1 ht2 ht3 hs
        cases b1
        · skip
          have HPV := Lib.hid hpv
          clear hpv
          go_wp2_with fail
          have HSF := Lib.hid (still_of (HFF.out wr.drew (Below.drew (Ext.refl _))))
          have cO' : wr.drew.cell? ⟨O, 0, none⟩ = some (.slice (some ⟨D, 0, none⟩) l.length l.length) := cO
          have cA' : wr.drew.cell? ⟨A, 0, none⟩ = some (.int .i64 (j : Int)) := cA
          refine region_tail 9 (by kernel_rfl) (by kernel_rfl) ?_
          generalize hWd : wr.drew = Wd at *
          have HWD := Lib.hid hWd
          clear hWd
          simp only [List.take_succ_cons, List.take_zero, List.drop_succ_cons, List.drop_zero]
          iterate 3 still_step
          still_call HSF.out
          iterate 5 still_step
          refine wpStill_nil ?_
          rw [← HWD.out]
          go_wp2_with fail
          go_roundg j
          case measure => have := HGI.out; omega
          case rel => exact ⟨j, _, rfl, by omega, by rw [HCC.out, HC0.out], rfl, by first | exact HT.out.fin (w' := wr) (Ext.refl _) HPV.out rfl (by simp) | exact (HT.out.fin (w' := wr) (Ext.refl _) HPV.out rfl (by simp)).later (Below.drew (Ext.refl _)) | exact (HT.out.fin (w' := wr) (Ext.refl _) HPV.out rfl (by simp)).later (below_drewN (Ext.refl _) _)⟩
        · skip
          have HPV := Lib.hid hpv
          clear hpv
          go_wp2_with fail
          go_region_held3 (fun w' => w'.cell? ⟨O, 0, none⟩ = some (.slice (some ⟨D, 0, none⟩) l.length l.length) ∧ w'.cell? ⟨A, 0, none⟩ = some (.int .i64 (j : Int)))
            ((first
              | go_keep
              | exact ⟨cell_later (below_drewN (Ext.refl _) _) cO, cell_later (below_drewN (Ext.refl _) _) cA⟩
              | exact ⟨cell_later (Below.drew (Ext.refl _)) cO, cell_later (Below.drew (Ext.refl _)) cA⟩))
            (first
              | (go_at_call 54
                 refine (HFF.out _ (by first | exact Ext.refl _ | exact Below.drew (Ext.refl _))).mono ?_
                 rintro e wq ⟨rfl, rfl⟩)
              | (go_at_call 55
                 refine (HSS.out _ (by first | exact Ext.refl _ | exact Below.drew (Ext.refl _))).mono ?_
                 rintro e wq ⟨rfl, q, rfl⟩))
          all_goals
            go_wp2_with fail
            go_roundg j
            case measure => have := HGI.out; omega
            case rel => exact ⟨j, _, rfl, by omega, by rw [HCC.out, HC0.out], rfl, by first | exact HT.out.fin (w' := wr) (Ext.refl _) HPV.out rfl (by simp) | exact (HT.out.fin (w' := wr) (Ext.refl _) HPV.out rfl (by simp)).later (Below.drew (Ext.refl _)) | exact (HT.out.fin (w' := wr) (Ext.refl _) HPV.out rfl (by simp)).later (below_drewN (Ext.refl _) _)⟩
      · -- or
        have hpv := HTA.out.or rfl
        have hone := HTA.out.one (.inr rfl)
        obtain ⟨ht1, ht2, ht3⟩ := HTA.out.two rfl
        obtain ⟨b1, hb1⟩ : ∃ b, tv.getD (j + 1) false = b := ⟨_, rfl⟩
        obtain ⟨s, hs⟩ : ∃ s, secAt es j = s := ⟨_, rfl⟩
        rw [hs] at hpv ht1 ht2 ht3
        obtain ⟨b2, hb2⟩ : ∃ b, tv.getD s false = b := ⟨_, rfl⟩
        rw [hb1, hb2] at hpv
        have HFF := Lib.hid (HF1.out b1 hb1 hone)
        have HSS := Lib.hid (HF2.out b2 s hb2 ht2 ht3 ht1)
        have hcc : cn1 = cn0 := HCL.out
        have HCC := Lib.hid hcc
        clear hcc hf3 hf4 HF1 HF2 hone hb1 hb2 ht1 ht2 ht3 hs
        cases b1
        · skip
          have HPV := Lib.hid hpv
          clear hpv
          go_wp2_with fail
          go_region_held3 (fun w' => w'.cell? ⟨O, 0, none⟩ = some (.slice (some ⟨D, 0, none⟩) l.length l.length) ∧ w'.cell? ⟨A, 0, none⟩ = some (.int .i64 (j : Int)))
            ((first
              | go_keep
              | exact ⟨cell_later (below_drewN (Ext.refl _) _) cO, cell_later (below_drewN (Ext.refl _) _) cA⟩
              | exact ⟨cell_later (Below.drew (Ext.refl _)) cO, cell_later (Below.drew (Ext.refl _)) cA⟩))
            (first
              | (go_at_call 54
                 refine (HFF.out _ (by first | exact Ext.refl _ | exact Below.drew (Ext.refl _))).mono ?_
                 rintro e wq ⟨rfl, rfl⟩)
              | (go_at_call 55
                 refine (HSS.out _ (by first | exact Ext.refl _ | exact Below.drew (Ext.refl _))).mono ?_
                 rintro e wq ⟨rfl, q, rfl⟩))
          all_goals
            go_wp2_with fail
            go_roundg j
            case measure => have := HGI.out; omega
            case rel => exact ⟨j, _, rfl, by omega, by rw [HCC.out, HC0.out], rfl, by first | exact HT.out.fin (w' := wr) (Ext.refl _) HPV.out rfl (by simp) | exact (HT.out.fin (w' := wr) (Ext.refl _) HPV.out rfl (by simp)).later (Below.drew (Ext.refl _)) | exact (HT.out.fin (w' := wr) (Ext.refl _) HPV.out rfl (by simp)).later (below_drewN (Ext.refl _) _)⟩
        · skip
          have HPV := Lib.hid hpv
          clear hpv
          go_wp2_with fail
          have HSF := Lib.hid (still_of (HFF.out wr.drew (Below.drew (Ext.refl _))))
          have cO' : wr.drew.cell? ⟨O, 0, none⟩ = some (.slice (some ⟨D, 0, none⟩) l.length l.length) := cO
          have cA' : wr.drew.cell? ⟨A, 0, none⟩ = some (.int .i64 (j : Int)) := cA
          refine region_tail 9 (by kernel_rfl) (by kernel_rfl) ?_
          generalize hWd : wr.drew = Wd at *
          have HWD := Lib.hid hWd
          clear hWd
          simp only [List.take_succ_cons, List.take_zero, List.drop_succ_cons, List.drop_zero]
          iterate 3 still_step
          still_call HSF.out
          iterate 5 still_step
          refine wpStill_nil ?_
          rw [← HWD.out]
          go_wp2_with fail
          go_roundg j
          case measure => have := HGI.out; omega
          case rel => exact ⟨j, _, rfl, by omega, by rw [HCC.out, HC0.out], rfl, by first | exact HT.out.fin (w' := wr) (Ext.refl _) HPV.out rfl (by simp) | exact (HT.out.fin (w' := wr) (Ext.refl _) HPV.out rfl (by simp)).later (Below.drew (Ext.refl _)) | exact (HT.out.fin (w' := wr) (Ext.refl _) HPV.out rfl (by simp)).later (below_drewN (Ext.refl _) _)⟩
      · -- ahead
        have hah : aheadB k = true := by simp [aheadB, hk14, hf2]
        have HPV := Lib.hid (HTA.out.ah hah)
        have hcc : cn1 = cn0 + 1 := by have := HCL.out; rw [hah] at this; exact this
        subst hcc
        have hb13 : (k == 13) = false := by rw [beq_eq_false_iff_ne]; omega
        have hb11 : (k == 11) = false := by rw [beq_eq_false_iff_ne]; omega
        have hb12 : (k == 12) = false := by rw [beq_eq_false_iff_ne]; omega
        have hb10 : (k == 10) = false := by rw [beq_eq_false_iff_ne]; omega
        have hb8 : (k == 8) = false := by rw [beq_eq_false_iff_ne]; omega
        have hb9 : (k == 9) = false := by rw [beq_eq_false_iff_ne]; omega
        have hcn6 : cn0 ≤ 6 := by have := cntA_take_le l j; have := HC0.out; have := HCN.out; omega
        clear hf3 hf4 HF1 HF2 hah
        have hbt := bit_shr c cn0 hc64
        have hpv := HPV.out
        rw [HC0.out] at hpv
        have HPV := Lib.hid hpv
        clear hpv
        go_wp2_with fail
        go_region
        all_goals
          go_wp2_with fail
          go_roundg j
          case measure => have := HGI.out; omega
          case rel => exact ⟨j, _, rfl, by omega, by rw [HC0.out], rfl, by first | exact HT.out.fin (w' := wr) (Ext.refl _) HPV.out rfl (by simp) | exact (HT.out.fin (w' := wr) (Ext.refl _) HPV.out rfl (by simp)).later (Below.drew (Ext.refl _)) | exact (HT.out.fin (w' := wr) (Ext.refl _) HPV.out rfl (by simp)).later (below_drewN (Ext.refl _) _)⟩

end Go.Proofs.YtkkbefhnklpfaaaDoor
