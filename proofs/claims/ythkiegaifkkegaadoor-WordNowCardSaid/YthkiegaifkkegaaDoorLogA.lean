/- LogA: what is needed of it. No condition. -/
import Derived.Test.YthkiegaifkkegaaDoorFormP
import Derived.Test.YthkiegaifkkegaaDoorPolC
import Derived.Test.YthkiegaifkkegaaDoorTermB
import Derived.Test.YthkiegaifkkegaaDoorTag
import Derived.Deep.LoopGhost
namespace Go.Proofs.YthkiegaifkkegaaDoor
open Go.RowKit
theorem Row.oneAt' (w : World) (t : TypeId) (x : Value) (k : Nat) (hk : k = w.heap.size) : Row (w.alloc (.cells #[x] t)) 1 (some ⟨k, 0, none⟩) 1 1 [x] := by subst hk; exact Row.one w t x
theorem ah_fn (k : Int) (w : World) : Calls Tryd.prog 24 #[.int .i64 k] w fun e w' => e = .returned (.bool (aheadB k)) ∧ w = w' := by
  by_cases h1 : 14 ≤ k
  · by_cases h2 : k ≤ 18
    · have hb : aheadB k = true := by simp [aheadB, h1, h2]
      rw [hb]
      go_enter Tryd.func24, Tryd.ntmps24
      go_wp2
      go_ret
      exact ⟨rfl, rfl⟩
    · have hb : aheadB k = false := by simp [aheadB, h2]
      rw [hb]
      go_enter Tryd.func24, Tryd.ntmps24
      go_wp2
      go_ret
      exact ⟨rfl, rfl⟩
  · have hb : aheadB k = false := by simp [aheadB, h1]
    rw [hb]
    go_enter Tryd.func24, Tryd.ntmps24
    go_wp2
    go_ret
    exact ⟨rfl, rfl⟩
theorem fits_ok (o : Op2) (props : Int) (w : World) (h : FitOp props o) : Calls Tryd.prog 23 #[.agg #[.int .i64 o.1, .int .i64 o.2], .int .i64 props] w fun e w' => e = .returned (.int .i64 0) ∧ Ext w w' := by
  obtain ⟨k, v⟩ := o
  obtain ⟨h1, h2, h3, h4⟩ := h
  simp only at h1 h2 h3 h4 ⊢
  have hk8 : ¬ k < 8 := by omega
  by_cases hk : k = 13
  · obtain ⟨h5, h6⟩ := h3 hk
    have hv : ¬ v < 0 := by omega
    have hv2 : ¬ props ≤ v := by omega
    clear h3 h4
    subst hk
    go_enter Tryd.func23, Tryd.ntmps23
    go_wp2
    go_ret
    exact ⟨rfl, ext_al (Ext.refl w) _⟩
  · have hv := h4 hk
    have hkb : (k == 13) = false := by rw [beq_eq_false_iff_ne]; exact hk
    have hkb2 : (k != 13) = true := by rw [bne_iff_ne]; exact hk
    clear h3 h4
    subst hv
    go_enter Tryd.func23, Tryd.ntmps23
    go_wp2
    go_ret
    exact ⟨rfl, ext_al (Ext.refl w) _⟩
theorem cntA_take (l : List Op2) {i : Nat} (h : i < l.length) : cntA (l.take (i + 1)) = cntA (l.take i) + (if aheadB l[i].1 then 1 else 0) := by
  rw [List.take_succ_eq_append_getElem h, cntA_app]
  simp [cntA]
theorem cntA_take_le (l : List Op2) (i : Nat) : cntA (l.take i) ≤ cntA l := by
  have : cntA l = cntA (l.take i) + cntA (l.drop i) := by rw [← cntA_app, List.take_append_drop]
  omega
structure IsF (l : List Op2) (props : Int) (t : Tm) : Prop where
  ok : t.ok
  flat : t.flat = l
  small : t.size ≤ 60
  fit : ∀ o ∈ l, FitOp props o
  cnt : cntA l ≤ 6
  p0 : 0 ≤ props
  p6 : props ≤ 6
set_option maxRecDepth 100000 in
set_option maxHeartbeats 4000000 in
theorem lcheck_ok (v : Value) (l : List Op2) (props : Int) (t : Tm) (w : World) (h : Ops w v l) (ht : Tab w) (hf : IsF l props t) :
    Calls Tryd.prog 18 #[v, .int .i64 props] w fun e w' => e = .returned (.int .i64 0) ∧ Ext w w' := by
  have hen := ends_term t hf.ok hf.small
  rw [hf.flat] at hen
  have HH := Lib.hid (by have H := ends_any v l w h ht; rw [hen] at H; exact H)
  obtain ⟨a, cap, rfl, hr⟩ := h
  have hl60 : l.length ≤ 60 := by rw [← hf.flat, Tm.flat_len]; exact hf.small
  have hpos : 0 < l.length := by rw [← hf.flat, Tm.flat_len]; exact t.size_pos
  have HR := Lib.hid hr
  have HF := Lib.hid hf
  have hp0 := hf.p0
  have hp6 := hf.p6
  clear hen hf hr ht
  go_enter Tryd.func18, Tryd.ntmps18
  go_wp2_with fail
  refine HH.out.mono ?_
  rintro e w1 ⟨hE1, v1, rfl, hown⟩
  obtain ⟨a1, c1, rfl, _⟩ := hown.row
  have HE1 := Lib.hid hE1
  clear hown hE1 HH
  go_wp2_with fail
  go_loopg [7, 27] l.length (fun m y x wr => ∃ i : Nat, m + i = l.length ∧ x = .int .i64 (i : Int) ∧ y = .int .i64 (cntA (l.take i) : Int) ∧ Ext w wr)
  case atStart => exact ⟨0, by omega, by go_num, by simp [cntA], HE1.out⟩
  case round =>
    obtain ⟨i, hmi, rfl, rfl, hE⟩ := hrel
    have HMI := Lib.hid hmi
    have HE := Lib.hid hE
    by_cases hi : i < l.length
    · obtain ⟨b, off, ha, hc⟩ := (HR.out.ext hE).ops
      obtain rfl := ha hpos
      obtain ⟨k1, k2⟩ := hc i hi
      have hfit := HF.out.fit l[i] (by simp)
      have HCN := Lib.hid (cntA_take l hi)
      have hle := cntA_take_le l i
      have hc6 := HF.out.cnt
      have hiI : (i : Int) < (l.length : Int) := by omega
      have hi0 : (0 : Int) ≤ (i : Int) := by omega
      have HFO := Lib.hid fun wx => fits_ok l[i] props wx hfit
      have HAF := Lib.hid fun wx => ah_fn l[i].1 wx
      clear hc ha hE hmi hfit
      generalize l[i] = o at *
      generalize hcn : cntA (l.take i) = n at *
      have HN := Lib.hid hcn
      clear hcn
      have q0 := blk_new wr (Obj.cells #[.int .i64 o.1, .int .i64 o.2] 41)
      have HQ := Lib.hid q0
      clear q0
      go_wp2_with fail
      refine (HFO.out _).mono ?_
      rintro e w3 ⟨rfl, hE3⟩
      have q3 := blk_ext HQ.out hE3
      have q30 := blk_cell q3 (i := 0) rfl
      have HE3 := Lib.hid (Ext.trans (ext_al HE.out (Obj.cells #[.int .i64 o.1, .int .i64 o.2] 41)) hE3)
      clear q3 hE3
      go_wp2_with fail
      refine (HAF.out _).mono ?_
      rintro e wq ⟨rfl, rfl⟩
      have hcn2 := HCN.out
      cases hah : aheadB o.1
      · rw [hah] at hcn2
        have HC2 := Lib.hid hcn2
        clear hcn2 hah
        go_wp2_with fail
        go_roundg (gk - 1)
        case measure => have := HMI.out; omega
        case rel => exact ⟨i + 1, by have := HMI.out; omega, by go_num, by rw [HC2.out]; rfl, HE3.out⟩
      · rw [hah] at hcn2
        have HC2 := Lib.hid hcn2
        clear hcn2 hah
        go_wp2_with fail
        go_roundg (gk - 1)
        case measure => have := HMI.out; omega
        case rel => exact ⟨i + 1, by have := HMI.out; omega, by go_num, by rw [HC2.out]; go_num, HE3.out⟩
    · have hiI : ¬ (i : Int) < (l.length : Int) := by omega
      have hle := cntA_take_le l i
      have hc6 := HF.out.cnt
      have hc6I : ¬ (6 : Int) < (cntA (l.take i) : Int) := by omega
      generalize cntA (l.take i) = n at *
      go_wp2
      go_ret
      exact ⟨rfl, HE.out⟩
end Go.Proofs.YthkiegaifkkegaaDoor
