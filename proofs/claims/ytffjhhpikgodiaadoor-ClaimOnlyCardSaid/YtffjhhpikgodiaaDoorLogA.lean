/- The contracts of logic.ahead, fits, Check, Ahead, over formulas that are one. -/
import Derived.Test.YtffjhhpikgodiaaDoorFormP
import Derived.Test.YtffjhhpikgodiaaDoorPolC
import Derived.Test.YtffjhhpikgodiaaDoorTermB
import Derived.Test.YtffjhhpikgodiaaDoorTag
import Derived.Deep.LoopGhost
namespace Go.Proofs.YtffjhhpikgodiaaDoor
open Go.RowKit

theorem Row.oneAt' (w : World) (t : TypeId) (x : Value) (k : Nat) (hk : k = w.heap.size) : Row (w.alloc (.cells #[x] t)) 1 (some ⟨k, 0, none⟩) 1 1 [x] := by subst hk; exact Row.one w t x

theorem ah_fn (k : Int) (w : World) : Calls Tryd.prog 31 #[.int .i64 k] w fun e w' => e = .returned (.bool (aheadB k)) ∧ w = w' := by
  by_cases h1 : 14 ≤ k
  · by_cases h2 : k ≤ 18
    · have hb : aheadB k = true := by simp [aheadB, h1, h2]
      rw [hb]
      go_enter Tryd.func31, Tryd.ntmps31
      go_wp2
      go_ret
      exact ⟨rfl, rfl⟩
    · have hb : aheadB k = false := by simp [aheadB, h2]
      rw [hb]
      go_enter Tryd.func31, Tryd.ntmps31
      go_wp2
      go_ret
      exact ⟨rfl, rfl⟩
  · have hb : aheadB k = false := by simp [aheadB, h1]
    rw [hb]
    go_enter Tryd.func31, Tryd.ntmps31
    go_wp2
    go_ret
    exact ⟨rfl, rfl⟩

theorem fits_ok (o : Op2) (props : Int) (w : World) (h : FitOp props o) : Calls Tryd.prog 40 #[.agg #[.int .i64 o.1, .int .i64 o.2], .int .i64 props] w fun e w' => e = .returned (.int .i64 0) ∧ Ext w w' := by
  obtain ⟨k, v⟩ := o
  obtain ⟨h1, h2, h3, h4⟩ := h
  simp only at h1 h2 h3 h4 ⊢
  have hk8 : ¬ k < 8 := by omega
  by_cases hk : k = 13
  · obtain ⟨h5, h6⟩ := h3 hk
    have hv : ¬ v < 0 := by omega
    have hv2 : ¬ props ≤ v := by omega
    clear h3 h4
    subst hk
    go_enter Tryd.func40, Tryd.ntmps40
    go_wp2
    go_ret
    exact ⟨rfl, ext_al (Ext.refl w) _⟩
  · have hv := h4 hk
    have hkb : (k == 13) = false := by rw [beq_eq_false_iff_ne]; exact hk
    have hkb2 : (k != 13) = true := by rw [bne_iff_ne]; exact hk
    clear h3 h4
    subst hv
    go_enter Tryd.func40, Tryd.ntmps40
    go_wp2
    go_ret
    exact ⟨rfl, ext_al (Ext.refl w) _⟩

theorem cntA_take (l : List Op2) {i : Nat} (h : i < l.length) : cntA (l.take (i + 1)) = cntA (l.take i) + (if aheadB l[i].1 then 1 else 0) := by
  rw [List.take_succ_eq_append_getElem h, cntA_app]
  simp [cntA]

theorem cntA_take_le (l : List Op2) (i : Nat) : cntA (l.take i) ≤ cntA l := by
  have : cntA l = cntA (l.take i) + cntA (l.drop i) := by rw [← cntA_app, List.take_append_drop]
  omega

/-- A formula: what logic.Check wants. -/
structure IsF (l : List Op2) (props : Int) (t : Tm) : Prop where
  ok : t.ok
  flat : t.flat = l
  small : t.size ≤ 60
  fit : ∀ o ∈ l, FitOp props o
  cnt : cntA l ≤ 6
  p0 : 0 ≤ props
  p6 : props ≤ 6

set_option maxRecDepth 100000 in
set_option maxHeartbeats 4000000 in
theorem lcheck_ok (v : Value) (l : List Op2) (props : Int) (t : Tm) (w : World) (h : Ops w v l) (ht : Tab w) (hf : IsF l props t) :
    Calls Tryd.prog 30 #[v, .int .i64 props] w fun e w' => e = .returned (.int .i64 0) ∧ Ext w w' := by
  have hen := ends_term t hf.ok hf.small
  rw [hf.flat] at hen
  have HH := Lib.hid (by have H := ends_any v l w h ht; rw [hen] at H; exact H)
  obtain ⟨a, cap, rfl, hr⟩ := h
  have hl60 : l.length ≤ 60 := by rw [← hf.flat, Tm.flat_len]; exact hf.small
  have hpos : 0 < l.length := by rw [← hf.flat, Tm.flat_len]; exact t.size_pos
  have HR := Lib.hid hr
  have HF := Lib.hid hf
  have hp0 := hf.p0
  have hp6 := hf.p6
  clear hen hf hr ht
  go_enter Tryd.func30, Tryd.ntmps30
  go_wp2_with fail
  refine HH.out.mono ?_
  rintro e w1 ⟨hE1, v1, rfl, hown⟩
  obtain ⟨a1, c1, rfl, _⟩ := hown.row
  have HE1 := Lib.hid hE1
  clear hown hE1 HH
  go_wp2_with fail
  go_loopg [7, 27] l.length (fun m y x wr => ∃ i : Nat, m + i = l.length ∧ x = .int .i64 (i : Int) ∧ y = .int .i64 (cntA (l.take i) : Int) ∧ Ext w wr)
  case atStart => exact ⟨0, by omega, by go_num, by simp [cntA], HE1.out⟩
  case round =>
    obtain ⟨i, hmi, rfl, rfl, hE⟩ := hrel
    have HMI := Lib.hid hmi
    have HE := Lib.hid hE
    by_cases hi : i < l.length
    · obtain ⟨b, off, ha, hc⟩ := (HR.out.ext hE).ops
      obtain rfl := ha hpos
      obtain ⟨k1, k2⟩ := hc i hi
      have hfit := HF.out.fit l[i] (by simp)
      have HCN := Lib.hid (cntA_take l hi)
      have hle := cntA_take_le l i
      have hc6 := HF.out.cnt
      have hiI : (i : Int) < (l.length : Int) := by omega
      have hi0 : (0 : Int) ≤ (i : Int) := by omega
      have HFO := Lib.hid fun wx => fits_ok l[i] props wx hfit
      have HAF := Lib.hid fun wx => ah_fn l[i].1 wx
      clear hc ha hE hmi hfit
      generalize l[i] = o at *
      generalize hcn : cntA (l.take i) = n at *
      have HN := Lib.hid hcn
      clear hcn
      have q0 := blk_new wr (Obj.cells #[.int .i64 o.1, .int .i64 o.2] 51)
      have HQ := Lib.hid q0
      clear q0
      go_wp2_with fail
      refine (HFO.out _).mono ?_
      rintro e w3 ⟨rfl, hE3⟩
      have q3 := blk_ext HQ.out hE3
      have q30 := blk_cell q3 (i := 0) rfl
      have HE3 := Lib.hid (Ext.trans (ext_al HE.out (Obj.cells #[.int .i64 o.1, .int .i64 o.2] 51)) hE3)
      clear q3 hE3
      go_wp2_with fail
      refine (HAF.out _).mono ?_
      rintro e wq ⟨rfl, rfl⟩
      have hcn2 := HCN.out
      cases hah : aheadB o.1
      · rw [hah] at hcn2
        have HC2 := Lib.hid hcn2
        clear hcn2 hah
        go_wp2_with fail
        go_roundg (gk - 1)
        case measure => have := HMI.out; omega
        case rel => exact ⟨i + 1, by have := HMI.out; omega, by go_num, by rw [HC2.out]; rfl, HE3.out⟩
      · rw [hah] at hcn2
        have HC2 := Lib.hid hcn2
        clear hcn2 hah
        go_wp2_with fail
        go_roundg (gk - 1)
        case measure => have := HMI.out; omega
        case rel => exact ⟨i + 1, by have := HMI.out; omega, by go_num, by rw [HC2.out]; go_num, HE3.out⟩
    · have hiI : ¬ (i : Int) < (l.length : Int) := by omega
      have hle := cntA_take_le l i
      have hc6 := HF.out.cnt
      have hc6I : ¬ (6 : Int) < (cntA (l.take i) : Int) := by omega
      generalize cntA (l.take i) = n at *
      go_wp2
      go_ret
      exact ⟨rfl, HE.out⟩

/-- The places of the ops that look ahead among the first. -/
def plUp (l : List Op2) : Nat → List Nat
  | 0 => []
  | i + 1 => if aheadB (l.getD i (0, 0)).1 then plUp l i ++ [i] else plUp l i
theorem plUp_len (l : List Op2) : ∀ i, i ≤ l.length → (plUp l i).length = cntA (l.take i)
  | 0, _ => by simp [plUp, cntA]
  | i + 1, h => by
    have ih := plUp_len l i (by omega)
    rw [cntA_take l (by omega)]
    unfold plUp
    rw [show l.getD i (0, 0) = l[i]'(by omega) by simp [List.getD, List.getElem?_eq_getElem (show i < l.length by omega)]]
    split
    · rename_i e; rw [List.length_append, ih]; rfl
    · rename_i e; rw [ih]; rfl
theorem plUp_get (l : List Op2) : ∀ i, i ≤ l.length → ∀ j a, (plUp l i)[j]? = some a → a < i ∧ aheadB (l.getD a (0, 0)).1 = true ∧ cntA (l.take a) = j
  | 0, _, j, a, h => by simp [plUp] at h
  | i + 1, hi, j, a, h => by
    unfold plUp at h
    split at h
    · rename_i e
      by_cases hj : j < (plUp l i).length
      · rw [List.getElem?_append_left hj] at h
        obtain ⟨h1, h2, h3⟩ := plUp_get l i (by omega) j a h
        exact ⟨by omega, h2, h3⟩
      · rw [List.getElem?_append_right (by omega)] at h
        have hj2 : j - (plUp l i).length = 0 := by
          by_cases e0 : j - (plUp l i).length = 0
          · exact e0
          · rw [List.getElem?_eq_none (by simp; omega)] at h; cases h
        rw [hj2] at h
        have : i = a := by simpa using h
        subst this
        exact ⟨by omega, e, by rw [← plUp_len l i (by omega)]; omega⟩
    · obtain ⟨h1, h2, h3⟩ := plUp_get l i (by omega) j a h
      exact ⟨by omega, h2, h3⟩

def plL (l : List Op2) : List Int := (plUp l l.length).map fun a : Nat => (a : Int)
theorem plL_len (l : List Op2) : (plL l).length = cntA l := by
  rw [plL, List.length_map, plUp_len l l.length (Nat.le_refl _), List.take_length]

set_option maxRecDepth 100000 in
set_option maxHeartbeats 4000000 in
theorem places_any (v : Value) (l : List Op2) (props : Int) (t : Tm) (w : World) (h : Ops w v l) (ht : Tab w) (hf : IsF l props t) :
    Calls Tryd.prog 17 #[v, .int .i64 props] w fun e w' => ∃ a c, e = .returned (.tuple #[.slice a (plL l).length c, .int .i64 0]) ∧ w'.ownsRow w.heap.size 3 1 (.slice a (plL l).length c) (plL l).length ((plL l).map (.int .i64)) ∧ Ext w w' := by
  have HCK := Lib.hid (lcheck_ok v l props t w h ht hf)
  obtain ⟨a, cap, rfl, hr⟩ := h
  have hl60 : l.length ≤ 60 := by rw [← hf.flat, Tm.flat_len]; exact hf.small
  have hpos : 0 < l.length := by rw [← hf.flat, Tm.flat_len]; exact t.size_pos
  have HR := Lib.hid hr
  have hc6 := hf.cnt
  clear hf hr ht
  go_enter Tryd.func17, Tryd.ntmps17
  go_wp2_with fail
  refine HCK.out.mono ?_
  rintro e w1 ⟨rfl, hE1⟩
  have HE1 := Lib.hid hE1
  clear hE1 HCK
  go_wp2_with fail
  go_loopg [7, 18] l.length (fun m y x wr => ∃ (i : Nat) (ap : Option Addr) (cp : Nat), m + i = l.length ∧ x = .int .i64 (i : Int) ∧ y = .slice ap (plUp l i).length cp ∧ wr.ownsRow w1.heap.size 3 1 (.slice ap (plUp l i).length cp) (plUp l i).length ((plUp l i).map fun a : Nat => Value.int .i64 (a : Int)) ∧ Ext w1 wr)
  case atStart => exact ⟨0, none, 0, by omega, by go_num, rfl, World.ownsRow_nil _ _ _ _, Ext.refl _⟩
  case round =>
    obtain ⟨i, ap, cp, hmi, rfl, rfl, ho, hE⟩ := hrel
    have HMI := Lib.hid hmi
    have HO := Lib.hid ho
    have HE := Lib.hid hE
    by_cases hi : i < l.length
    · obtain ⟨b, off, ha, hc⟩ := (HR.out.ext (HE1.out.trans hE)).ops
      obtain rfl := ha hpos
      obtain ⟨k1, k2⟩ := hc i hi
      have hiI : (i : Int) < (l.length : Int) := by omega
      have hi0 : (0 : Int) ≤ (i : Int) := by omega
      have hpl : plUp l (i + 1) = if aheadB l[i].1 then plUp l i ++ [i] else plUp l i := by
        rw [plUp, show l.getD i (0, 0) = l[i] by simp [List.getD, List.getElem?_eq_getElem hi]]
      have hpn : (plUp l i).length ≤ 6 := by have := cntA_take_le l i; rw [plUp_len l i (by omega)]; omega
      have HPL := Lib.hid hpl
      clear hc ha hE hmi hpl ho
      generalize l[i] = o at *
      generalize plUp l i = pl at *
      have q0 := blk_new wr (Obj.cells #[.int .i64 o.1, .int .i64 o.2] 51)
      have hx := ext_al HE.out (Obj.cells #[.int .i64 o.1, .int .i64 o.2] 51)
      have HX := Lib.hid hx
      have ho2 := HO.out.alloc (Obj.cells #[.int .i64 o.1, .int .i64 o.2] 51)
      have HO2 := Lib.hid ho2
      clear q0 hx ho2
      go_wp2_with fail
      refine (ah_fn o.1 _).mono ?_
      rintro e wq ⟨rfl, rfl⟩
      have hpl := HPL.out
      cases hah : aheadB o.1
      · rw [hah, if_neg (by simp)] at hpl
        have HP2 := Lib.hid hpl
        clear hpl hah
        go_wp2_with fail
        go_roundg (gk - 1)
        case measure => have := HMI.out; omega
        case rel => exact ⟨i + 1, ap, cp, by have := HMI.out; omega, by go_num, by rw [HP2.out], by rw [HP2.out]; exact HO2.out, HX.out⟩
      · rw [hah, if_pos rfl] at hpl
        have HP2 := Lib.hid hpl
        have ho3 := HO2.out.alloc (Obj.cells #[.int .i64 (i : Int)] 3)
        have hx3 := ext_al HX.out (Obj.cells #[.int .i64 (i : Int)] 3)
        have HO3 := Lib.hid ho3
        have HX3 := Lib.hid hx3
        clear hpl hah hx3
        go_wp2_with (at_builtin; go_must (refine wpl_append rfl rfl Tryd.slInts w1.heap.size rfl ho3 rfl (Row.oneAt' _ _ _ _ (by simp)) (one_int _) (by unfold maxLen; omega) (by omega) HX3.out.size ?_))
        intro v4 w4 hown4 hg4 hb4 _
        obtain ⟨a4, c4, rfl, _⟩ := hown4.row
        have HE4 := Lib.hid (Below.grown HX3.out hg4 HX3.out.size (fun b hb => (HO3.out.lt b hb).1))
        have HO4 := Lib.hid hown4
        clear hown4 hg4 hb4 ho3
        go_wp2_with fail
        go_roundg (gk - 1)
        case measure => have := HMI.out; omega
        case rel => exact ⟨i + 1, a4, c4, by have := HMI.out; omega, by go_num, by rw [HP2.out, List.length_append]; rfl, by rw [HP2.out, List.length_append, List.map_append]; exact HO4.out, HE4.out⟩
    · obtain rfl : i = l.length := by omega
      have hiI : ¬ (l.length : Int) < (l.length : Int) := by omega
      have hl : (plL l).length = (plUp l l.length).length := by rw [plL, List.length_map]
      have hm : (plL l).map (Value.int .i64) = (plUp l l.length).map fun a : Nat => Value.int .i64 (a : Int) := by rw [plL, List.map_map]; rfl
      have HL := Lib.hid hl
      have HMM := Lib.hid hm
      have HEW := Lib.hid (HE1.out.trans hE)
      clear hE ho hl hm HE hmi
      go_wp2
      go_ret2
      exact ⟨ap, cp, by rw [HL.out]; rfl, by rw [HL.out, HMM.out]; exact own_down HO.out HE1.out.size, HEW.out⟩

end Go.Proofs.YtffjhhpikgodiaaDoor
