/- Several texts in one: LogA; TruA; Meets; LineP; FmJ; ClaimB; LineN; Concat; WordA; TopL; WordB. No condition. -/
import Derived.Test.YtciihiiacbnimaaGreatDoorKv9
import Derived.Test.YtciihiiacbnimaaGreatDoorKv2
import Derived.Test.YtciihiiacbnimaaGreatDoorKv1
import Derived.Deep.LoopGhost
import Derived.Test.YtciihiiacbnimaaGreatDoorKv10
import Derived.Deep.RegionLaw
import Derived.BigQuiet
import Derived.Deep.RegionHeld3
import Derived.Lib.AppendZeros
namespace Go.Proofs.YtciihiiacbnimaaGreatDoor
open Go.RowKit
theorem Row.oneAt' (w : World) (t : TypeId) (x : Value) (k : Nat) (hk : k = w.heap.size) : Row (w.alloc (.cells #[x] t)) 1 (some ⟨k, 0, none⟩) 1 1 [x] := by subst hk; exact Row.one w t x
theorem ah_fn (k : Int) (w : World) : Calls Tryz.prog 39 #[.int .i64 k] w fun e w' => e = .returned (.bool (aheadB k)) ∧ w = w' := by
  by_cases h1 : 14 ≤ k
  · by_cases h2 : k ≤ 18
    · have hb : aheadB k = true := by simp [aheadB, h1, h2]
      rw [hb]
      go_enter Tryz.func39, Tryz.ntmps39
      go_wp2
      go_ret
      exact ⟨rfl, rfl⟩
    · have hb : aheadB k = false := by simp [aheadB, h2]
      rw [hb]
      go_enter Tryz.func39, Tryz.ntmps39
      go_wp2
      go_ret
      exact ⟨rfl, rfl⟩
  · have hb : aheadB k = false := by simp [aheadB, h1]
    rw [hb]
    go_enter Tryz.func39, Tryz.ntmps39
    go_wp2
    go_ret
    exact ⟨rfl, rfl⟩
theorem fits_ok (o : Op2) (props : Int) (w : World) (h : FitOp props o) : Calls Tryz.prog 65 #[.agg #[.int .i64 o.1, .int .i64 o.2], .int .i64 props] w fun e w' => e = .returned (.int .i64 0) ∧ Ext w w' := by
  obtain ⟨k, v⟩ := o
  obtain ⟨h1, h2, h3, h4⟩ := h
  simp only at h1 h2 h3 h4 ⊢
  have hk8 : ¬ k < 8 := by omega
  by_cases hk : k = 13
  · obtain ⟨h5, h6⟩ := h3 hk
    have hv : ¬ v < 0 := by omega
    have hv2 : ¬ props ≤ v := by omega
    clear h3 h4
    subst hk
    go_enter Tryz.func65, Tryz.ntmps65
    go_wp2
    go_ret
    exact ⟨rfl, ext_al (Ext.refl w) _⟩
  · have hv := h4 hk
    have hkb : (k == 13) = false := by rw [beq_eq_false_iff_ne]; exact hk
    have hkb2 : (k != 13) = true := by rw [bne_iff_ne]; exact hk
    clear h3 h4
    subst hv
    go_enter Tryz.func65, Tryz.ntmps65
    go_wp2
    go_ret
    exact ⟨rfl, ext_al (Ext.refl w) _⟩
theorem cntA_take (l : List Op2) {i : Nat} (h : i < l.length) : cntA (l.take (i + 1)) = cntA (l.take i) + (if aheadB l[i].1 then 1 else 0) := by
  rw [List.take_succ_eq_append_getElem h, cntA_app]
  simp [cntA]
theorem cntA_take_le (l : List Op2) (i : Nat) : cntA (l.take i) ≤ cntA l := by
  have : cntA l = cntA (l.take i) + cntA (l.drop i) := by rw [← cntA_app, List.take_append_drop]
  omega
structure IsF (l : List Op2) (props : Int) (t : Tm) : Prop where
  ok : t.ok
  flat : t.flat = l
  small : t.size ≤ 60
  fit : ∀ o ∈ l, FitOp props o
  cnt : cntA l ≤ 6
  p0 : 0 ≤ props
  p6 : props ≤ 6
set_option maxRecDepth 100000 in
set_option maxHeartbeats 4000000 in
theorem lcheck_ok (v : Value) (l : List Op2) (props : Int) (t : Tm) (w : World) (h : Ops w v l) (ht : Tab w) (hf : IsF l props t) :
    Calls Tryz.prog 38 #[v, .int .i64 props] w fun e w' => e = .returned (.int .i64 0) ∧ Ext w w' := by
  have hen := ends_term t hf.ok hf.small
  rw [hf.flat] at hen
  have HH := Lib.hid (by have H := ends_any v l w h ht; rw [hen] at H; exact H)
  obtain ⟨a, cap, rfl, hr⟩ := h
  have hl60 : l.length ≤ 60 := by rw [← hf.flat, Tm.flat_len]; exact hf.small
  have hpos : 0 < l.length := by rw [← hf.flat, Tm.flat_len]; exact t.size_pos
  have HR := Lib.hid hr
  have HF := Lib.hid hf
  have hp0 := hf.p0
  have hp6 := hf.p6
  clear hen hf hr ht
  go_enter Tryz.func38, Tryz.ntmps38
  go_wp2_with fail
  refine HH.out.mono ?_
  rintro e w1 ⟨hE1, v1, rfl, hown⟩
  obtain ⟨a1, c1, rfl, _⟩ := hown.row
  have HE1 := Lib.hid hE1
  clear hown hE1 HH
  go_wp2_with fail
  go_loopg [7, 27] l.length (fun m y x wr => ∃ i : Nat, m + i = l.length ∧ x = .int .i64 (i : Int) ∧ y = .int .i64 (cntA (l.take i) : Int) ∧ Ext w wr)
  case atStart => exact ⟨0, by omega, by go_num, by simp [cntA], HE1.out⟩
  case round =>
    obtain ⟨i, hmi, rfl, rfl, hE⟩ := hrel
    have HMI := Lib.hid hmi
    have HE := Lib.hid hE
    by_cases hi : i < l.length
    · obtain ⟨b, off, ha, hc⟩ := (HR.out.ext hE).ops
      obtain rfl := ha hpos
      obtain ⟨k1, k2⟩ := hc i hi
      have hfit := HF.out.fit l[i] (by simp)
      have HCN := Lib.hid (cntA_take l hi)
      have hle := cntA_take_le l i
      have hc6 := HF.out.cnt
      have hiI : (i : Int) < (l.length : Int) := by omega
      have hi0 : (0 : Int) ≤ (i : Int) := by omega
      have HFO := Lib.hid fun wx => fits_ok l[i] props wx hfit
      have HAF := Lib.hid fun wx => ah_fn l[i].1 wx
      clear hc ha hE hmi hfit
      generalize l[i] = o at *
      generalize hcn : cntA (l.take i) = n at *
      have HN := Lib.hid hcn
      clear hcn
      have q0 := blk_new wr (Obj.cells #[.int .i64 o.1, .int .i64 o.2] 102)
      have HQ := Lib.hid q0
      clear q0
      go_wp2_with fail
      refine (HFO.out _).mono ?_
      rintro e w3 ⟨rfl, hE3⟩
      have q3 := blk_ext HQ.out hE3
      have q30 := blk_cell q3 (i := 0) rfl
      have HE3 := Lib.hid (Ext.trans (ext_al HE.out (Obj.cells #[.int .i64 o.1, .int .i64 o.2] 102)) hE3)
      clear q3 hE3
      go_wp2_with fail
      refine (HAF.out _).mono ?_
      rintro e wq ⟨rfl, rfl⟩
      have hcn2 := HCN.out
      cases hah : aheadB o.1
      · rw [hah] at hcn2
        have HC2 := Lib.hid hcn2
        clear hcn2 hah
        go_wp2_with fail
        go_roundg (gk - 1)
        case measure => have := HMI.out; omega
        case rel => exact ⟨i + 1, by have := HMI.out; omega, by go_num, by rw [HC2.out]; rfl, HE3.out⟩
      · rw [hah] at hcn2
        have HC2 := Lib.hid hcn2
        clear hcn2 hah
        go_wp2_with fail
        go_roundg (gk - 1)
        case measure => have := HMI.out; omega
        case rel => exact ⟨i + 1, by have := HMI.out; omega, by go_num, by rw [HC2.out]; go_num, HE3.out⟩
    · have hiI : ¬ (i : Int) < (l.length : Int) := by omega
      have hle := cntA_take_le l i
      have hc6 := HF.out.cnt
      have hc6I : ¬ (6 : Int) < (cntA (l.take i) : Int) := by omega
      generalize cntA (l.take i) = n at *
      go_wp2
      go_ret
      exact ⟨rfl, HE.out⟩
def plUp (l : List Op2) : Nat → List Nat
  | 0 => []
  | i + 1 => if aheadB (l.getD i (0, 0)).1 then plUp l i ++ [i] else plUp l i
theorem plUp_len (l : List Op2) : ∀ i, i ≤ l.length → (plUp l i).length = cntA (l.take i)
  | 0, _ => by simp [plUp, cntA]
  | i + 1, h => by
    have ih := plUp_len l i (by omega)
    rw [cntA_take l (by omega)]
    unfold plUp
    rw [show l.getD i (0, 0) = l[i]'(by omega) by simp [List.getD, List.getElem?_eq_getElem (show i < l.length by omega)]]
    split
    · rename_i e; rw [List.length_append, ih]; rfl
    · rename_i e; rw [ih]; rfl
theorem plUp_get (l : List Op2) : ∀ i, i ≤ l.length → ∀ j a, (plUp l i)[j]? = some a → a < i ∧ aheadB (l.getD a (0, 0)).1 = true ∧ cntA (l.take a) = j
  | 0, _, j, a, h => by simp [plUp] at h
  | i + 1, hi, j, a, h => by
    unfold plUp at h
    split at h
    · rename_i e
      by_cases hj : j < (plUp l i).length
      · rw [List.getElem?_append_left hj] at h
        obtain ⟨h1, h2, h3⟩ := plUp_get l i (by omega) j a h
        exact ⟨by omega, h2, h3⟩
      · rw [List.getElem?_append_right (by omega)] at h
        have hj2 : j - (plUp l i).length = 0 := by
          by_cases e0 : j - (plUp l i).length = 0
          · exact e0
          · rw [List.getElem?_eq_none (by simp; omega)] at h; cases h
        rw [hj2] at h
        have : i = a := by simpa using h
        subst this
        exact ⟨by omega, e, by rw [← plUp_len l i (by omega)]; omega⟩
    · obtain ⟨h1, h2, h3⟩ := plUp_get l i (by omega) j a h
      exact ⟨by omega, h2, h3⟩
def plL (l : List Op2) : List Int := (plUp l l.length).map fun a : Nat => (a : Int)
theorem plL_len (l : List Op2) : (plL l).length = cntA l := by
  rw [plL, List.length_map, plUp_len l l.length (Nat.le_refl _), List.take_length]
set_option maxRecDepth 100000 in
set_option maxHeartbeats 4000000 in
theorem places_any (v : Value) (l : List Op2) (props : Int) (t : Tm) (w : World) (h : Ops w v l) (ht : Tab w) (hf : IsF l props t) :
    Calls Tryz.prog 17 #[v, .int .i64 props] w fun e w' => ∃ a c, e = .returned (.tuple #[.slice a (plL l).length c, .int .i64 0]) ∧ w'.ownsRow w.heap.size 3 1 (.slice a (plL l).length c) (plL l).length ((plL l).map (.int .i64)) ∧ Ext w w' := by
  have HCK := Lib.hid (lcheck_ok v l props t w h ht hf)
  obtain ⟨a, cap, rfl, hr⟩ := h
  have hl60 : l.length ≤ 60 := by rw [← hf.flat, Tm.flat_len]; exact hf.small
  have hpos : 0 < l.length := by rw [← hf.flat, Tm.flat_len]; exact t.size_pos
  have HR := Lib.hid hr
  have hc6 := hf.cnt
  clear hf hr ht
  go_enter Tryz.func17, Tryz.ntmps17
  go_wp2_with fail
  refine HCK.out.mono ?_
  rintro e w1 ⟨rfl, hE1⟩
  have HE1 := Lib.hid hE1
  clear hE1 HCK
  go_wp2_with fail
  go_loopg [7, 18] l.length (fun m y x wr => ∃ (i : Nat) (ap : Option Addr) (cp : Nat), m + i = l.length ∧ x = .int .i64 (i : Int) ∧ y = .slice ap (plUp l i).length cp ∧ wr.ownsRow w1.heap.size 3 1 (.slice ap (plUp l i).length cp) (plUp l i).length ((plUp l i).map fun a : Nat => Value.int .i64 (a : Int)) ∧ Ext w1 wr)
  case atStart => exact ⟨0, none, 0, by omega, by go_num, rfl, World.ownsRow_nil _ _ _ _, Ext.refl _⟩
  case round =>
    obtain ⟨i, ap, cp, hmi, rfl, rfl, ho, hE⟩ := hrel
    have HMI := Lib.hid hmi
    have HO := Lib.hid ho
    have HE := Lib.hid hE
    by_cases hi : i < l.length
    · obtain ⟨b, off, ha, hc⟩ := (HR.out.ext (HE1.out.trans hE)).ops
      obtain rfl := ha hpos
      obtain ⟨k1, k2⟩ := hc i hi
      have hiI : (i : Int) < (l.length : Int) := by omega
      have hi0 : (0 : Int) ≤ (i : Int) := by omega
      have hpl : plUp l (i + 1) = if aheadB l[i].1 then plUp l i ++ [i] else plUp l i := by
        rw [plUp, show l.getD i (0, 0) = l[i] by simp [List.getD, List.getElem?_eq_getElem hi]]
      have hpn : (plUp l i).length ≤ 6 := by have := cntA_take_le l i; rw [plUp_len l i (by omega)]; omega
      have HPL := Lib.hid hpl
      clear hc ha hE hmi hpl ho
      generalize l[i] = o at *
      generalize plUp l i = pl at *
      have q0 := blk_new wr (Obj.cells #[.int .i64 o.1, .int .i64 o.2] 102)
      have hx := ext_al HE.out (Obj.cells #[.int .i64 o.1, .int .i64 o.2] 102)
      have HX := Lib.hid hx
      have ho2 := HO.out.alloc (Obj.cells #[.int .i64 o.1, .int .i64 o.2] 102)
      have HO2 := Lib.hid ho2
      clear q0 hx ho2
      go_wp2_with fail
      refine (ah_fn o.1 _).mono ?_
      rintro e wq ⟨rfl, rfl⟩
      have hpl := HPL.out
      cases hah : aheadB o.1
      · rw [hah, if_neg (by simp)] at hpl
        have HP2 := Lib.hid hpl
        clear hpl hah
        go_wp2_with fail
        go_roundg (gk - 1)
        case measure => have := HMI.out; omega
        case rel => exact ⟨i + 1, ap, cp, by have := HMI.out; omega, by go_num, by rw [HP2.out], by rw [HP2.out]; exact HO2.out, HX.out⟩
      · rw [hah, if_pos rfl] at hpl
        have HP2 := Lib.hid hpl
        have ho3 := HO2.out.alloc (Obj.cells #[.int .i64 (i : Int)] 3)
        have hx3 := ext_al HX.out (Obj.cells #[.int .i64 (i : Int)] 3)
        have HO3 := Lib.hid ho3
        have HX3 := Lib.hid hx3
        clear hpl hah hx3
        go_wp2_with (at_builtin; go_must (refine wpl_append rfl rfl Tryz.slInts w1.heap.size rfl ho3 rfl (Row.oneAt' _ _ _ _ (by simp)) (one_int _) (by unfold maxLen; omega) (by omega) HX3.out.size ?_))
        intro v4 w4 hown4 hg4 hb4 _
        obtain ⟨a4, c4, rfl, _⟩ := hown4.row
        have HE4 := Lib.hid (Below.grown HX3.out hg4 HX3.out.size (fun b hb => (HO3.out.lt b hb).1))
        have HO4 := Lib.hid hown4
        clear hown4 hg4 hb4 ho3
        go_wp2_with fail
        go_roundg (gk - 1)
        case measure => have := HMI.out; omega
        case rel => exact ⟨i + 1, a4, c4, by have := HMI.out; omega, by go_num, by rw [HP2.out, List.length_append]; rfl, by rw [HP2.out, List.length_append, List.map_append]; exact HO4.out, HE4.out⟩
    · obtain rfl : i = l.length := by omega
      have hiI : ¬ (l.length : Int) < (l.length : Int) := by omega
      have hl : (plL l).length = (plUp l l.length).length := by rw [plL, List.length_map]
      have hm : (plL l).map (Value.int .i64) = (plUp l l.length).map fun a : Nat => Value.int .i64 (a : Int) := by rw [plL, List.map_map]; rfl
      have HL := Lib.hid hl
      have HMM := Lib.hid hm
      have HEW := Lib.hid (HE1.out.trans hE)
      clear hE ho hl hm HE hmi
      go_wp2
      go_ret2
      exact ⟨ap, cp, by rw [HL.out]; rfl, by rw [HL.out, HMM.out]; exact own_down HO.out HE1.out.size, HEW.out⟩
end Go.Proofs.YtciihiiacbnimaaGreatDoor

namespace Go.Proofs.YtciihiiacbnimaaGreatDoor
open Go.RowKit
theorem Tryz.slBools : SlTy Tryz.prog 53 4 (.bool false) 1 1 := SlTy.mk' Tryz.underlying53 (by kernel_rfl) (by rfl) (by omega)
def mixL (tv : List Bool) (i : Nat) : List Bool := List.replicate i false ++ tv.drop i
theorem mixL_len {tv : List Bool} {i : Nat} (h : i ≤ tv.length) : (mixL tv i).length = tv.length := by simp [mixL]; omega
theorem mixL_get {tv : List Bool} {i j : Nat} (hj : i ≤ j) : (mixL tv i)[j]? = tv[j]? := by
  rw [mixL, List.getElem?_append_right (by simpa using hj), List.length_replicate, List.getElem?_drop]
  congr 1; omega
theorem mixL_at {tv : List Bool} {i : Nat} : (mixL tv (i + 1))[i]? = some false := by
  rw [mixL, List.getElem?_append_left (by simp), List.getElem?_replicate, if_pos (by omega)]
theorem mixL_set {tv : List Bool} {i : Nat} {b : Bool} (h : tv[i]? = some b) : (mixL tv (i + 1)).set i b = mixL tv i := by
  obtain ⟨hl, he⟩ := List.getElem?_eq_some_iff.1 h
  apply List.ext_getElem?
  intro j
  rw [List.getElem?_set]
  by_cases hij : i = j
  · subst hij
    rw [if_pos rfl, if_pos (by rw [mixL_len (by omega)]; exact hl), mixL_get (Nat.le_refl _), h]
  · rw [if_neg hij]
    by_cases hlt : i < j
    · rw [mixL_get (by omega), mixL_get (by omega)]
    · rw [mixL, mixL, List.getElem?_append_left (by simp; omega), List.getElem?_append_left (by simp; omega), List.getElem?_replicate, List.getElem?_replicate, if_pos (by omega), if_pos (by omega)]
theorem mixL_no {tv : List Bool} {i : Nat} (h : tv[i]? = some false) : mixL tv (i + 1) = mixL tv i := by
  have := mixL_set h
  rw [← this]
  apply List.ext_getElem?
  intro j
  rw [List.getElem?_set]
  by_cases hij : i = j
  · subst hij
    obtain ⟨hl, _⟩ := List.getElem?_eq_some_iff.1 h
    rw [if_pos rfl, if_pos (by rw [mixL_len (by omega)]; exact hl), mixL_at]
  · rw [if_neg hij]
theorem own_bool {w : World} {base D n cap i : Nat} {l : List Bool} {x : Bool} (h : w.ownsRow base 4 1 (.slice (some ⟨D, 0, none⟩) n cap) n (l.map .bool)) (hi : l[i]? = some x) : w.cell? ⟨D, i, none⟩ = some (.bool x) := by
  obtain ⟨hl, e⟩ := List.getElem?_eq_some_iff.1 hi
  refine (own_cellAt h (i := i) (by simpa using hl)).trans ?_
  rw [List.getElem_map, e]
theorem row_ints {α : Type} {f : α → Value} {w : World} {a : Option Addr} {n c : Nat} {l : List α} (h : Row w 1 a n c (l.map f)) : ∃ b off, (0 < l.length → a = some ⟨b, off, none⟩) ∧ ∀ (i : Nat) (x : α), l[i]? = some x → w.cell? ⟨b, off + i, none⟩ = some (f x) := by
  obtain ⟨b, off, _, h2, h3⟩ := h.lie
  exact ⟨b, off, fun hl => h2 (by simpa using hl), fun i x hi => h3 i _ (by rw [List.getElem?_map, hi]; rfl)⟩
set_option maxRecDepth 100000 in
theorem tru1_any (w : World) (O D A n at' : Nat) (b : Bool) (hO : w.heap[O]? = some (.cells #[.slice (some ⟨D, 0, none⟩) n n] 53 (0, 0))) (hA : w.heap[A]? = some (.cells #[.int .i64 (at' : Int)] 3 (0, 0)))
    (hc : w.cell? ⟨D, at' + 1, none⟩ = some (.bool b)) (hn : at' + 1 < n) (hn6 : n ≤ 60) :
    Calls Tryz.prog 63 #[.pointer (some ⟨O, 0, none⟩), .pointer (some ⟨A, 0, none⟩)] w fun e w' => e = .returned (.bool b) ∧ w = w' := by
  have cO := blk_cell hO (i := 0) rfl
  have cA := blk_cell hA (i := 0) rfl
  have hnI : (at' : Int) + 1 < (n : Int) := by omega
  have hn0 : (0 : Int) ≤ (at' : Int) + 1 := by omega
  have hto : ((at' : Int) + 1).toNat = at' + 1 := by omega
  clear hO hA
  go_enter Tryz.func63, Tryz.ntmps63
  go_wp2
  go_ret
  exact ⟨rfl, rfl⟩
set_option maxRecDepth 100000 in
theorem tru2_any (w : World) (O D E A n at' s : Nat) (ae : Option Addr) (ce ne : Nat) (es : List Int) (b : Bool) (hO : w.heap[O]? = some (.cells #[.slice (some ⟨D, 0, none⟩) n n] 53 (0, 0))) (hA : w.heap[A]? = some (.cells #[.int .i64 (at' : Int)] 3 (0, 0)))
    (hE : w.heap[E]? = some (.cells #[.slice ae ne ce] 27 (0, 0))) (hes : Row w 1 ae ne ce (es.map (.int .i64))) (he : es[at' + 1]? = some (s : Int))
    (hc : w.cell? ⟨D, s, none⟩ = some (.bool b)) (hs : s < n) (ha : at' < 60) :
    Calls Tryz.prog 64 #[.pointer (some ⟨O, 0, none⟩), .pointer (some ⟨E, 0, none⟩), .pointer (some ⟨A, 0, none⟩)] w fun e w' => e = .returned (.bool b) ∧ ∃ q, w' = w.drewN q := by
  have cO := blk_cell hO (i := 0) rfl
  have cA := blk_cell hA (i := 0) rfl
  have cE := blk_cell hE (i := 0) rfl
  have hel : es.length = ne := by have := hes.len; simpa using this
  obtain ⟨hl, he'⟩ := List.getElem?_eq_some_iff.1 he
  obtain ⟨bb, oo, h1, h3⟩ := row_ints hes
  obtain rfl := h1 (by omega)
  have cN := h3 _ _ he
  have hnI : (at' : Int) + 1 < (ne : Int) := by omega
  have hn0 : (0 : Int) ≤ (at' : Int) + 1 := by omega
  have hto : ((at' : Int) + 1).toNat = at' + 1 := by omega
  have hsI : (s : Int) < (n : Int) := by omega
  have hs0 : (0 : Int) ≤ (s : Int) := by omega
  clear hO hA hE h1 h3 he he' hes hel
  go_enter Tryz.func64, Tryz.ntmps64
  go_wp2_with fail
  go_quiet (fail)
  go_wp2
  go_ret
  exact ⟨rfl, _, rfl⟩
structure TM (W2 w : World) (O D A n : Nat) (tv : List Bool) (i : Nat) : Prop where
  ext : Ext W2 w
  o : w.heap[O]? = some (.cells #[.slice (some ⟨D, 0, none⟩) n n] 53 (0, 0))
  a : w.heap[A]? = some (.cells #[.int .i64 ((i : Int) - 1)] 3 (0, 0))
  row : w.ownsRow W2.heap.size 4 1 (.slice (some ⟨D, 0, none⟩) n n) n ((mixL tv i).map .bool)
  oa : A ≠ O
  od : O ≠ D
  ad : A ≠ D
  lo : W2.heap.size ≤ O
  la : W2.heap.size ≤ A
theorem TM.drew {W2 w : World} {O D A n : Nat} {tv : List Bool} {i : Nat} (h : TM W2 w O D A n tv i) (q : Nat) : TM W2 (w.drewN q) O D A n tv i :=
  ⟨below_drewN h.ext q, blk_ext h.o (below_drewN (Ext.refl _) q), blk_ext h.a (below_drewN (Ext.refl _) q), own_ext h.row (below_drewN (Ext.refl _) q), h.oa, h.od, h.ad, h.lo, h.la⟩
theorem TM.put {W2 w : World} {O D A n : Nat} {tv : List Bool} {i : Nat} {b : Bool} (h : TM W2 w O D A n tv (i + 1)) (hb : tv[i]? = some b) :
    let w1 := w.setCell ⟨D, i, none⟩ (.bool b)
    Ext W2 w1 ∧ w1.heap[O]? = some (.cells #[.slice (some ⟨D, 0, none⟩) n n] 53 (0, 0)) ∧ w1.ownsRow W2.heap.size 4 1 (.slice (some ⟨D, 0, none⟩) n n) n ((mixL tv i).map .bool) := by
  have hD := (h.row.lt D rfl).1
  refine ⟨ext_st h.ext (p := ⟨D, i, none⟩) hD _, blk_far h.o (p := ⟨D, i, none⟩) (Ne.symm h.od) _, ?_⟩
  have := own_setAt h.row (i := i) (.bool b)
  rw [← List.map_set, mixL_set hb] at this
  exact this
theorem TM.later {W2 w w' : World} {O D A n : Nat} {tv : List Bool} {i : Nat} (h : TM W2 w O D A n tv i) (hE : Ext w w') : TM W2 w' O D A n tv i :=
  ⟨h.ext.trans hE, blk_ext h.o hE, blk_ext h.a hE, own_ext h.row hE, h.oa, h.od, h.ad, h.lo, h.la⟩
theorem TM.next {W2 w : World} {O D n j A' : Nat} {tv : List Bool} (hE : Ext W2 w) (ho : w.heap[O]? = some (.cells #[.slice (some ⟨D, 0, none⟩) n n] 53 (0, 0))) (hr : w.ownsRow W2.heap.size 4 1 (.slice (some ⟨D, 0, none⟩) n n) n ((mixL tv j).map .bool)) (od : O ≠ D) (lo : W2.heap.size ≤ O) (hA : A' = w.heap.size) :
    TM W2 (w.alloc (.cells #[.int .i64 ((j : Int) - 1)] 3)) O D A' n tv j := by
  subst hA
  have hO := blk_lt ho
  have hD := (hr.lt D rfl).2
  have hx := ext_al (Ext.refl w) (Obj.cells #[.int .i64 ((j : Int) - 1)] 3)
  exact ⟨hE.trans hx, blk_ext ho hx, blk_new w _, own_ext hr hx, by omega, od, by omega, lo, hE.size⟩
theorem TM.fin {W2 w w' W5 : World} {O D A n j A' : Nat} {tv : List Bool} {b : Bool} (h : TM W2 w O D A n tv (j + 1)) (hx : Ext w w') (hb : tv[j]? = some b) (h5 : W5 = w'.setCell ⟨D, j, none⟩ (.bool b)) (hA : A' = W5.heap.size) :
    TM W2 (W5.alloc (.cells #[.int .i64 ((j : Int) - 1)] 3)) O D A' n tv j := by
  obtain ⟨p1, p2, p3⟩ := (h.later hx).put hb
  subst h5
  exact TM.next p1 p2 p3 h.od h.lo hA
theorem TM.same {W2 w : World} {O D A n j A' : Nat} {tv : List Bool} (h : TM W2 w O D A n tv (j + 1)) (hb : tv[j]? = some false) (hA : A' = w.heap.size) :
    TM W2 (w.alloc (.cells #[.int .i64 ((j : Int) - 1)] 3)) O D A' n tv j := by
  have hr := h.row
  rw [mixL_no hb] at hr
  exact TM.next h.ext h.o hr h.od h.lo hA
theorem tv_at (L : List Bool) (c : Nat) (t : Tm) (ht : t.ok) (i : Nat) (k v : Int) (h : t.flat[i]? = some (k, v)) : TvAt L c t.flat (t.ends 0) (tvT L c t 0) i k v := by
  obtain ⟨hl, _⟩ := List.getElem?_eq_some_iff.1 h
  have := tv_law L c t ht [] [] [] [] [] [] rfl rfl i (by rw [← Tm.flat_len]; exact hl) k v (by simpa using h)
  simpa [cntA] using this
theorem bit_shr (c n : Nat) (hc : c < 64) : (bits .and .i64 ((c : Int) / 2 ^ n) 1 == 1) = c.testBit n := by
  have e : (c : Int) / 2 ^ n = ((c / 2 ^ n : Nat) : Int) := by push_cast; rfl
  have hle : c / 2 ^ n ≤ c := Nat.div_le_self _ _
  have h := i64_and_nat (c / 2 ^ n) 1 (by omega) (by omega)
  rw [e, show (1 : Int) = ((1 : Nat) : Int) from rfl, h, Nat.and_one_is_mod, Nat.testBit_eq_decide_div_mod_eq, Bool.eq_iff_iff, beq_iff_eq, decide_eq_true_eq]
  omega
theorem getD_some {l : List Bool} {i : Nat} (h : i < l.length) : l[i]? = some (l.getD i false) := by simp [List.getD, List.getElem?_eq_getElem h]
set_option maxRecDepth 100000 in
set_option maxHeartbeats 8000000 in
theorem truths_any (v : Value) (l : List Op2) (t : Tm) (vl : Value) (L : List Bool) (c : Nat) (w : World) (h : Ops w v l) (ht : Tab w) (hf : IsF l (L.length : Int) t) (hL : Bools w vl L) (hc : c < 2 ^ cntA l) :
    Calls Tryz.prog 37 #[v, vl, .int .i64 (c : Int)] w fun e w' => ∃ D, e = .returned (.tuple #[.slice (some ⟨D, 0, none⟩) l.length l.length, .int .i64 0]) ∧ w'.ownsRow w.heap.size 4 1 (.slice (some ⟨D, 0, none⟩) l.length l.length) l.length ((tvT L c t 0).map .bool) ∧ Ext w w' := by
  have hen := ends_term t hf.ok hf.small
  rw [hf.flat] at hen
  have HPL := Lib.hid (places_any v l (L.length : Int) t w h ht hf)
  have HEN := Lib.hid fun wx (hx : Ext w wx) => by have H := ends_any v l wx (h.ext hx) (ht.ext hx); rw [hen] at H; exact H
  have hl60 : l.length ≤ 60 := by rw [← hf.flat, Tm.flat_len]; exact hf.small
  have hpos : 0 < l.length := by rw [← hf.flat, Tm.flat_len]; exact t.size_pos
  have htl : (tvT L c t 0).length = l.length := by rw [tvT_len, ← Tm.flat_len, hf.flat]
  have hel : (t.ends 0).length = l.length := by rw [Tm.ends_len, ← Tm.flat_len, hf.flat]
  have HTV := Lib.hid fun i k v (hi : l[i]? = some (k, v)) => by have := tv_at L c t hf.ok i k v (by rw [hf.flat]; exact hi); rw [hf.flat] at this; exact this
  obtain ⟨a, cap, rfl, hr⟩ := h
  obtain ⟨al, cl, rfl, hrl⟩ := hL
  have HR := Lib.hid hr
  have HRL := Lib.hid hrl
  have HF := Lib.hid hf
  have hpl := plL_len l
  have hc6 := hf.cnt
  have hcp : 2 ^ cntA l ≤ 2 ^ 6 := Nat.pow_le_pow_right (by omega) hc6
  have hpe : ((2 ^ cntA l : Nat) : Int) = (2 : Int) ^ cntA l := by push_cast; rfl
  have hw0 : IntKind.i64.wrap ((2 : Int) ^ cntA l) = (2 : Int) ^ cntA l := IntWalk.i64_in _ (by omega)
  obtain ⟨PM, hPM⟩ : ∃ PM, (2 : Int) ^ cntA l = PM := ⟨_, rfl⟩
  rw [hPM] at hpe
  replace hw0 := hw0.trans hPM
  have hcI : ¬ PM ≤ (c : Int) := by omega
  have hc0 : ¬ (c : Int) < 0 := by omega
  generalize t.ends 0 = es at *
  generalize tvT L c t 0 = tv at *
  have hmf : ∀ (fn : Fn) (first cap : Array Value) (w : World), (Instr.makeFunc fn first cap).run Tryz.prog w = .ok (.func fn first cap) w := fun _ _ _ _ => rfl
  have HTL := Lib.hid htl
  have HEL := Lib.hid hel
  have hc64 : c < 64 := by omega
  clear hen hf hr hrl ht htl hel hpe hcp hc hPM
  rw [hpl] at HPL
  clear hpl
  generalize hcn : cntA l = N at *
  have HCN := Lib.hid hcn
  clear hcn
  have HLL := Lib.hid fun i (hi : i < l.length) => cntA_take l hi
  have HCT := Lib.hid (show cntA (l.take l.length) = N by rw [List.take_length]; exact HCN.out)
  go_enter Tryz.func37, Tryz.ntmps37
  go_wp2_with fail
  refine HPL.out.mono ?_
  rintro e w1 ⟨ap, cp, rfl, -, hE1⟩
  have HE1 := Lib.hid hE1
  clear hE1 HPL
  go_wp2_with fail
  refine (HEN.out _ HE1.out).mono ?_
  rintro e w2 ⟨hE2, v2, rfl, hown2⟩
  obtain ⟨ae, ce, rfl, hre⟩ := hown2.row
  have hx := ext_al (Ext.refl w2) (Obj.cells #[.slice ae es.length ce] 27)
  have HRE := Lib.hid (hre.ext hx)
  have BE := Lib.hid (blk_new w2 (Obj.cells #[.slice ae es.length ce] 27))
  have HE2 := Lib.hid ((HE1.out.trans hE2).trans hx)
  clear hown2 hre hE2 hx HEN HE1
  go_wp2_with (at_make; go_must (refine wpList_make_full _ rfl _ _ 53 rfl (w2.heap.size + 1) 4 (Tryz.slBools.inf.choose) (.bool false) 1 Tryz.underlying53 Tryz.slBools.inf.choose_spec.1 Tryz.slBools.inf.choose_spec.2.1 Tryz.slBools.inf.choose_spec.2.2.1 .i64 .i64 l.length l.length l.length rfl rfl rfl rfl (by rw [Tryz.slBools.inf.choose_spec.2.2.2]; omega) (by unfold maxLen; omega) (by simp) ?_))
  intro w3 hown3 hg3
  have hmx : (madeCells #[Value.bool false] l.length).toList = (mixL tv l.length).map .bool := by
    rw [toList_madeCells_one, mixL, List.drop_of_length_le (by rw [HTL.out]; exact Nat.le_refl _), List.append_nil, List.map_replicate]
  rw [hmx] at hown3
  have hW2 : (w2.alloc (Obj.cells #[.slice ae es.length ce] 27)).heap.size = w2.heap.size + 1 := by simp
  have hE3 : Ext (w2.alloc (Obj.cells #[.slice ae es.length ce] 27)) w3 := (Ext.refl _).grown hg3 (Nat.le_refl _) (by simp)
  have hD3 : w2.heap.size + 1 < w3.heap.size := (hown3.lt _ rfl).2
  have hxO := ext_al (Ext.refl w3) (Obj.cells #[.slice (some ⟨w2.heap.size + 1, 0, none⟩) l.length l.length] 53)
  have bO := blk_new w3 (Obj.cells #[.slice (some ⟨w2.heap.size + 1, 0, none⟩) l.length l.length] 53)
  have hTM : TM (w2.alloc (Obj.cells #[.slice ae es.length ce] 27)) ((w3.alloc (Obj.cells #[.slice (some ⟨w2.heap.size + 1, 0, none⟩) l.length l.length] 53)).alloc (Obj.cells #[.int .i64 ((l.length : Int) - 1)] 3)) w3.heap.size (w2.heap.size + 1) (w3.heap.size + 1) l.length tv l.length :=
    ⟨ext_al (hE3.trans hxO) _, blk_ext bO (ext_al (Ext.refl _) _), by
      have := blk_new (w3.alloc (Obj.cells #[.slice (some ⟨w2.heap.size + 1, 0, none⟩) l.length l.length] 53)) (Obj.cells #[.int .i64 ((l.length : Int) - 1)] 3)
      rw [show (w3.alloc (Obj.cells #[.slice (some ⟨w2.heap.size + 1, 0, none⟩) l.length l.length] 53)).heap.size = w3.heap.size + 1 by simp] at this
      exact this, own_ext (by rw [hW2]; exact hown3) (ext_al hxO _), by omega, by omega, by omega, by rw [hW2]; omega, by rw [hW2]; omega⟩
  have HTM := Lib.hid hTM
  clear hown3 hg3 hmx hE3 hD3 hxO bO hTM
  go_wp2_with fail
  generalize (w3.alloc (Obj.cells #[.slice (some ⟨w2.heap.size + 1, 0, none⟩) l.length l.length] 53)).alloc (Obj.cells #[.int .i64 ((l.length : Int) - 1)] 3) = W5 at *
  generalize w3.heap.size + 1 = A0 at *
  generalize w3.heap.size = O at *
  generalize w2.alloc (Obj.cells #[.slice ae es.length ce] 27) = W2 at *
  generalize w2.heap.size + 1 = D at *
  generalize w2.heap.size = E at *
  clear hW2
  go_loopg [13, 14] l.length (fun m x y wr => ∃ (i A : Nat), m = i ∧ i ≤ l.length ∧ x = .int .i64 (cntA (l.take i) : Int) ∧ y = .pointer (some ⟨A, 0, none⟩) ∧ TM W2 wr O D A l.length tv i)
  case atStart => exact ⟨l.length, A0, rfl, Nat.le_refl _, by rw [HCT.out], rfl, HTM.out⟩
  case round =>
    obtain ⟨i, A, hgi, hil, rfl, rfl, hT⟩ := hrel
    have HGI := Lib.hid hgi
    clear HTM hgi
    have HT := Lib.hid hT
    cases i with
    | zero =>
      have cA := blk_cell hT.a (i := 0) rfl
      have cO := blk_cell hT.o (i := 0) rfl
      have hr := hT.row
      have e : mixL tv 0 = tv := by simp [mixL]
      rw [e] at hr
      have HRW := Lib.hid hr
      have HEW := Lib.hid (HE2.out.trans hT.ext)
      have HSZ := Lib.hid HE2.out.size
      clear hT hr e
      go_wp2
      go_ret2
      exact ⟨D, rfl, own_down HRW.out HSZ.out, HEW.out⟩
    | succ j =>
      have hj : j < l.length := by omega
      have haj : ((j + 1 : Nat) : Int) - 1 = (j : Int) := by omega
      have ha := hT.a
      rw [haj] at ha
      have cA := blk_cell ha (i := 0) rfl
      have cO := blk_cell hT.o (i := 0) rfl
      have hEW := HE2.out.trans hT.ext
      obtain ⟨b, off, hb, hc⟩ := (HR.out.ext hEW).ops
      obtain rfl := hb hpos
      obtain ⟨k1, k2⟩ := hc j hj
      have htva := HTV.out j l[j].1 l[j].2 (List.getElem?_eq_getElem hj)
      obtain ⟨hf1, hf2, hf3, hf4⟩ := HF.out.fit l[j] (by simp)
      have HTA := Lib.hid htva
      have HA := Lib.hid ha
      have HCL := Lib.hid (HLL.out j hj)
      have hjI : (j : Int) < (l.length : Int) := by omega
      have hj0 : (0 : Int) ≤ (j : Int) := by omega
      have hcD := own_bool hT.row (i := j) mixL_at
      have hfD := own_freeAt hT.row j
      have hAO := hT.oa
      have hOD := hT.od
      have hAD := hT.ad
      have hDO : ¬ D = O := fun e => hOD e.symm
      have hDA : ¬ D = A := fun e => hAD e.symm
      have hnA : ∀ b : Bool, tv.getD (j + 1) false = b → j + 1 < l.length → wr.cell? ⟨D, j + 1, none⟩ = some (.bool b) := fun b hb h => by
        have := getD_some (l := tv) (i := j + 1) (by rw [HTL.out]; exact h)
        rw [hb] at this
        exact own_bool hT.row (by rw [mixL_get (Nat.le_refl _)]; exact this)
      have hnB : ∀ (b : Bool) (s : Nat), tv.getD s false = b → j + 1 < s → s < l.length → wr.cell? ⟨D, s, none⟩ = some (.bool b) := fun b s hb h1 h2 => by
        have := getD_some (l := tv) (i := s) (by rw [HTL.out]; exact h2)
        rw [hb] at this
        exact own_bool hT.row (by rw [mixL_get (by omega)]; exact this)
      have HF1 := Lib.hid fun (b : Bool) (hb : tv.getD (j + 1) false = b) (h : j + 1 < l.length) wx (hx : Ext wr wx) => tru1_any wx O D A l.length j b (blk_ext hT.o hx) (blk_ext ha hx) (cell_later hx (hnA b hb h)) h hl60
      have HF2 := Lib.hid fun (b : Bool) (s : Nat) (hb : tv.getD s false = b) (h1 : j + 1 < s) (h2 : s < l.length) (h3 : es[j + 1]? = some (s : Int)) wx (hx : Ext wr wx) => tru2_any wx O D E A l.length j s ae ce es.length es b (blk_ext hT.o hx) (blk_ext ha hx) (blk_ext BE.out (hT.ext.trans hx)) (HRE.out.ext (hT.ext.trans hx)) h3 (cell_later hx (hnB b s hb h1 h2)) h2 (by omega)
      clear hnA hnB
      generalize cntA (l.take (j + 1)) = cn1 at *
      generalize hcn0 : cntA (l.take j) = cn0 at *
      have HC0 := Lib.hid hcn0
      generalize hlj : l[j] = o at *
      obtain ⟨k, u⟩ := o
      simp only at k1 k2 hf1 hf2 hf3 hf4 HTA HCL
      have HLJ := Lib.hid hlj
      clear hc hb hT htva ha hcn0 hlj
      have hcase : k = 13 ∨ k = 11 ∨ k = 12 ∨ k = 10 ∨ k = 8 ∨ k = 9 ∨ 14 ≤ k := by omega
      rcases hcase with rfl | rfl | rfl | rfl | rfl | rfl | hk14
      · 
        obtain ⟨h5, h6⟩ := hf3 rfl
        obtain ⟨un, rfl⟩ : ∃ un : Nat, u = (un : Int) := ⟨u.toNat, by omega⟩
        obtain ⟨bL, oL, hL1, hL2⟩ := row_ints (HRL.out.ext hEW)
        obtain rfl := hL1 (by omega)
        have cL := hL2 un _ (getD_some (by omega))
        have hpv := HTA.out.prop rfl
        rw [show ((un : Int)).toNat = un by omega] at hpv
        have HPV := Lib.hid hpv
        have hcc : cn1 = cn0 := HCL.out
        have HCC := Lib.hid hcc
        generalize L.getD un false = bb at *
        clear hpv hcc hL1 hL2 hf3 hf4 HF1 HF2
        go_wp2_with fail
        go_region
        all_goals
          go_wp2_with fail
          go_roundg j
          case measure => have := HGI.out; omega
          case rel => exact ⟨j, _, rfl, by omega, by rw [HCC.out, HC0.out], rfl, by first | exact HT.out.fin (w' := wr) (Ext.refl _) HPV.out rfl (by simp) | exact (HT.out.fin (w' := wr) (Ext.refl _) HPV.out rfl (by simp)).later (Below.drew (Ext.refl _)) | exact (HT.out.fin (w' := wr) (Ext.refl _) HPV.out rfl (by simp)).later (below_drewN (Ext.refl _) _)⟩
      · 
        have HPV := Lib.hid (HTA.out.yes rfl)
        have hcc : cn1 = cn0 := HCL.out
        have HCC := Lib.hid hcc
        clear hcc hf3 hf4 HF1 HF2
        go_wp2_with fail
        go_roundg j
        case measure => have := HGI.out; omega
        case rel => exact ⟨j, _, rfl, by omega, by rw [HCC.out, HC0.out], rfl, by first | exact HT.out.fin (w' := wr) (Ext.refl _) HPV.out rfl (by simp) | exact (HT.out.fin (w' := wr) (Ext.refl _) HPV.out rfl (by simp)).later (Below.drew (Ext.refl _)) | exact (HT.out.fin (w' := wr) (Ext.refl _) HPV.out rfl (by simp)).later (below_drewN (Ext.refl _) _)⟩
      · 
        have HPV := Lib.hid (HTA.out.no rfl)
        have hcc : cn1 = cn0 := HCL.out
        have HCC := Lib.hid hcc
        clear hcc hf3 hf4 HF1 HF2
        go_wp2_with fail
        go_roundg j
        case measure => have := HGI.out; omega
        case rel => exact ⟨j, _, rfl, by omega, by rw [HCC.out, HC0.out], rfl, HT.out.same HPV.out rfl⟩
      · 
        have hpv := HTA.out.not rfl
        have hone := HTA.out.one (.inl rfl)
        obtain ⟨b1, hb1⟩ : ∃ b, tv.getD (j + 1) false = b := ⟨_, rfl⟩
        rw [hb1] at hpv
        have HFF := Lib.hid (HF1.out b1 hb1 hone)
        have HPV := Lib.hid hpv
        have hcc : cn1 = cn0 := HCL.out
        have HCC := Lib.hid hcc
        clear hcc hf3 hf4 HF1 HF2 hpv hone hb1
        go_wp2_with fail
        go_region_law (go_simp
                       go_at_call 63
                       refine (HFF.out _ (by first | exact Ext.refl _ | exact Below.drew (Ext.refl _))).mono ?_
                       rintro e wq ⟨rfl, rfl⟩)
        all_goals
          go_wp2_with fail
          go_roundg j
          case measure => have := HGI.out; omega
          case rel => exact ⟨j, _, rfl, by omega, by rw [HCC.out, HC0.out], rfl, by first | exact HT.out.fin (w' := wr) (Ext.refl _) HPV.out rfl (by simp) | exact (HT.out.fin (w' := wr) (Ext.refl _) HPV.out rfl (by simp)).later (Below.drew (Ext.refl _)) | exact (HT.out.fin (w' := wr) (Ext.refl _) HPV.out rfl (by simp)).later (below_drewN (Ext.refl _) _)⟩
      · 
        have hpv := HTA.out.and rfl
        have hone := HTA.out.one (.inr rfl)
        obtain ⟨ht1, ht2, ht3⟩ := HTA.out.two rfl
        obtain ⟨b1, hb1⟩ : ∃ b, tv.getD (j + 1) false = b := ⟨_, rfl⟩
        obtain ⟨s, hs⟩ : ∃ s, secAt es j = s := ⟨_, rfl⟩
        rw [hs] at hpv ht1 ht2 ht3
        obtain ⟨b2, hb2⟩ : ∃ b, tv.getD s false = b := ⟨_, rfl⟩
        rw [hb1, hb2] at hpv
        have HFF := Lib.hid (HF1.out b1 hb1 hone)
        have HSS := Lib.hid (HF2.out b2 s hb2 ht2 ht3 ht1)
        have hcc : cn1 = cn0 := HCL.out
        have HCC := Lib.hid hcc
        clear hcc hf3 hf4 HF1 HF2 hone hb1 hb2 ht1 ht2 ht3 hs
        cases b1
        · skip
          have HPV := Lib.hid hpv
          clear hpv
          go_wp2_with fail
          have HSF := Lib.hid (still_of (HFF.out wr.drew (Below.drew (Ext.refl _))))
          have cO' : wr.drew.cell? ⟨O, 0, none⟩ = some (.slice (some ⟨D, 0, none⟩) l.length l.length) := cO
          have cA' : wr.drew.cell? ⟨A, 0, none⟩ = some (.int .i64 (j : Int)) := cA
          refine region_tail 9 (by kernel_rfl) (by kernel_rfl) ?_
          generalize hWd : wr.drew = Wd at *
          have HWD := Lib.hid hWd
          clear hWd
          simp only [List.take_succ_cons, List.take_zero, List.drop_succ_cons, List.drop_zero]
          iterate 3 still_step
          still_call HSF.out
          iterate 5 still_step
          refine wpStill_nil ?_
          rw [← HWD.out]
          go_wp2_with fail
          go_roundg j
          case measure => have := HGI.out; omega
          case rel => exact ⟨j, _, rfl, by omega, by rw [HCC.out, HC0.out], rfl, by first | exact HT.out.fin (w' := wr) (Ext.refl _) HPV.out rfl (by simp) | exact (HT.out.fin (w' := wr) (Ext.refl _) HPV.out rfl (by simp)).later (Below.drew (Ext.refl _)) | exact (HT.out.fin (w' := wr) (Ext.refl _) HPV.out rfl (by simp)).later (below_drewN (Ext.refl _) _)⟩
        · skip
          have HPV := Lib.hid hpv
          clear hpv
          go_wp2_with fail
          go_region_held3 (fun w' => w'.cell? ⟨O, 0, none⟩ = some (.slice (some ⟨D, 0, none⟩) l.length l.length) ∧ w'.cell? ⟨A, 0, none⟩ = some (.int .i64 (j : Int)))
            ((first
              | go_keep
              | exact ⟨cell_later (below_drewN (Ext.refl _) _) cO, cell_later (below_drewN (Ext.refl _) _) cA⟩
              | exact ⟨cell_later (Below.drew (Ext.refl _)) cO, cell_later (Below.drew (Ext.refl _)) cA⟩))
            (first
              | (go_at_call 63
                 refine (HFF.out _ (by first | exact Ext.refl _ | exact Below.drew (Ext.refl _))).mono ?_
                 rintro e wq ⟨rfl, rfl⟩)
              | (go_at_call 64
                 refine (HSS.out _ (by first | exact Ext.refl _ | exact Below.drew (Ext.refl _))).mono ?_
                 rintro e wq ⟨rfl, q, rfl⟩))
          all_goals
            go_wp2_with fail
            go_roundg j
            case measure => have := HGI.out; omega
            case rel => exact ⟨j, _, rfl, by omega, by rw [HCC.out, HC0.out], rfl, by first | exact HT.out.fin (w' := wr) (Ext.refl _) HPV.out rfl (by simp) | exact (HT.out.fin (w' := wr) (Ext.refl _) HPV.out rfl (by simp)).later (Below.drew (Ext.refl _)) | exact (HT.out.fin (w' := wr) (Ext.refl _) HPV.out rfl (by simp)).later (below_drewN (Ext.refl _) _)⟩
      · 
        have hpv := HTA.out.or rfl
        have hone := HTA.out.one (.inr rfl)
        obtain ⟨ht1, ht2, ht3⟩ := HTA.out.two rfl
        obtain ⟨b1, hb1⟩ : ∃ b, tv.getD (j + 1) false = b := ⟨_, rfl⟩
        obtain ⟨s, hs⟩ : ∃ s, secAt es j = s := ⟨_, rfl⟩
        rw [hs] at hpv ht1 ht2 ht3
        obtain ⟨b2, hb2⟩ : ∃ b, tv.getD s false = b := ⟨_, rfl⟩
        rw [hb1, hb2] at hpv
        have HFF := Lib.hid (HF1.out b1 hb1 hone)
        have HSS := Lib.hid (HF2.out b2 s hb2 ht2 ht3 ht1)
        have hcc : cn1 = cn0 := HCL.out
        have HCC := Lib.hid hcc
        clear hcc hf3 hf4 HF1 HF2 hone hb1 hb2 ht1 ht2 ht3 hs
        cases b1
        · skip
          have HPV := Lib.hid hpv
          clear hpv
          go_wp2_with fail
          go_region_held3 (fun w' => w'.cell? ⟨O, 0, none⟩ = some (.slice (some ⟨D, 0, none⟩) l.length l.length) ∧ w'.cell? ⟨A, 0, none⟩ = some (.int .i64 (j : Int)))
            ((first
              | go_keep
              | exact ⟨cell_later (below_drewN (Ext.refl _) _) cO, cell_later (below_drewN (Ext.refl _) _) cA⟩
              | exact ⟨cell_later (Below.drew (Ext.refl _)) cO, cell_later (Below.drew (Ext.refl _)) cA⟩))
            (first
              | (go_at_call 63
                 refine (HFF.out _ (by first | exact Ext.refl _ | exact Below.drew (Ext.refl _))).mono ?_
                 rintro e wq ⟨rfl, rfl⟩)
              | (go_at_call 64
                 refine (HSS.out _ (by first | exact Ext.refl _ | exact Below.drew (Ext.refl _))).mono ?_
                 rintro e wq ⟨rfl, q, rfl⟩))
          all_goals
            go_wp2_with fail
            go_roundg j
            case measure => have := HGI.out; omega
            case rel => exact ⟨j, _, rfl, by omega, by rw [HCC.out, HC0.out], rfl, by first | exact HT.out.fin (w' := wr) (Ext.refl _) HPV.out rfl (by simp) | exact (HT.out.fin (w' := wr) (Ext.refl _) HPV.out rfl (by simp)).later (Below.drew (Ext.refl _)) | exact (HT.out.fin (w' := wr) (Ext.refl _) HPV.out rfl (by simp)).later (below_drewN (Ext.refl _) _)⟩
        · skip
          have HPV := Lib.hid hpv
          clear hpv
          go_wp2_with fail
          have HSF := Lib.hid (still_of (HFF.out wr.drew (Below.drew (Ext.refl _))))
          have cO' : wr.drew.cell? ⟨O, 0, none⟩ = some (.slice (some ⟨D, 0, none⟩) l.length l.length) := cO
          have cA' : wr.drew.cell? ⟨A, 0, none⟩ = some (.int .i64 (j : Int)) := cA
          refine region_tail 9 (by kernel_rfl) (by kernel_rfl) ?_
          generalize hWd : wr.drew = Wd at *
          have HWD := Lib.hid hWd
          clear hWd
          simp only [List.take_succ_cons, List.take_zero, List.drop_succ_cons, List.drop_zero]
          iterate 3 still_step
          still_call HSF.out
          iterate 5 still_step
          refine wpStill_nil ?_
          rw [← HWD.out]
          go_wp2_with fail
          go_roundg j
          case measure => have := HGI.out; omega
          case rel => exact ⟨j, _, rfl, by omega, by rw [HCC.out, HC0.out], rfl, by first | exact HT.out.fin (w' := wr) (Ext.refl _) HPV.out rfl (by simp) | exact (HT.out.fin (w' := wr) (Ext.refl _) HPV.out rfl (by simp)).later (Below.drew (Ext.refl _)) | exact (HT.out.fin (w' := wr) (Ext.refl _) HPV.out rfl (by simp)).later (below_drewN (Ext.refl _) _)⟩
      · 
        have hah : aheadB k = true := by simp [aheadB, hk14, hf2]
        have HPV := Lib.hid (HTA.out.ah hah)
        have hcc : cn1 = cn0 + 1 := by have := HCL.out; rw [hah] at this; exact this
        subst hcc
        have hb13 : (k == 13) = false := by rw [beq_eq_false_iff_ne]; omega
        have hb11 : (k == 11) = false := by rw [beq_eq_false_iff_ne]; omega
        have hb12 : (k == 12) = false := by rw [beq_eq_false_iff_ne]; omega
        have hb10 : (k == 10) = false := by rw [beq_eq_false_iff_ne]; omega
        have hb8 : (k == 8) = false := by rw [beq_eq_false_iff_ne]; omega
        have hb9 : (k == 9) = false := by rw [beq_eq_false_iff_ne]; omega
        have hcn6 : cn0 ≤ 6 := by have := cntA_take_le l j; have := HC0.out; have := HCN.out; omega
        clear hf3 hf4 HF1 HF2 hah
        have hbt := bit_shr c cn0 hc64
        have hpv := HPV.out
        rw [HC0.out] at hpv
        have HPV := Lib.hid hpv
        clear hpv
        go_wp2_with fail
        go_region
        all_goals
          go_wp2_with fail
          go_roundg j
          case measure => have := HGI.out; omega
          case rel => exact ⟨j, _, rfl, by omega, by rw [HC0.out], rfl, by first | exact HT.out.fin (w' := wr) (Ext.refl _) HPV.out rfl (by simp) | exact (HT.out.fin (w' := wr) (Ext.refl _) HPV.out rfl (by simp)).later (Below.drew (Ext.refl _)) | exact (HT.out.fin (w' := wr) (Ext.refl _) HPV.out rfl (by simp)).later (below_drewN (Ext.refl _) _)⟩
end Go.Proofs.YtciihiiacbnimaaGreatDoor

namespace Go.Proofs.YtciihiiacbnimaaGreatDoor
open Go.RowKit
def metB (k : Int) (es : List Int) (tv : List Bool) (i : Nat) : Bool :=
  if k = 17 then !tv.getD i false || tv.getD (i + 1) false
  else if k = 18 then tv.getD i false || !tv.getD (i + 1) false
  else if k = 15 then !tv.getD i false || tv.getD (secAt es i) false
  else if k = 16 then tv.getD i false || !tv.getD (secAt es i) false
  else true
def meUp (l : List Op2) (es : List Int) (tv : List Bool) : Nat → Nat
  | 0 => 0
  | i + 1 => if aheadB (l.getD i (0, 0)).1 && metB (l.getD i (0, 0)).1 es tv i then meUp l es tv i ||| 2 ^ cntA (l.take i) else meUp l es tv i
theorem meUp_lt (l : List Op2) (es : List Int) (tv : List Bool) : ∀ i, i ≤ l.length → meUp l es tv i < 2 ^ cntA (l.take i)
  | 0, _ => Nat.two_pow_pos _
  | i + 1, h => by
    have ih := meUp_lt l es tv i (by omega)
    have hc := cntA_take l (show i < l.length by omega)
    have hg : l.getD i (0, 0) = l[i]'(by omega) := by simp [List.getD, List.getElem?_eq_getElem (show i < l.length by omega)]
    unfold meUp
    rw [hg, hc]
    split
    · rename_i e
      simp only [Bool.and_eq_true] at e
      rw [if_pos e.1]
      exact Nat.or_lt_two_pow (Nat.lt_of_lt_of_le ih (Nat.pow_le_pow_right (by omega) (by omega))) (Nat.pow_lt_pow_right (by omega) (by omega))
    · exact Nat.lt_of_lt_of_le ih (Nat.pow_le_pow_right (by omega) (by omega))
set_option maxRecDepth 100000 in
set_option maxHeartbeats 8000000 in
theorem meets_any (v : Value) (l : List Op2) (t : Tm) (vl : Value) (L : List Bool) (c : Nat) (w : World) (h : Ops w v l) (ht : Tab w) (hf : IsF l (L.length : Int) t) (hL : Bools w vl L) (hc : c < 2 ^ cntA l) :
    Calls Tryz.prog 19 #[v, vl, .int .i64 (c : Int)] w fun e w' => e = .returned (.tuple #[.int .i64 (meUp l (t.ends 0) (tvT L c t 0) l.length : Int), .int .i64 0]) ∧ Ext w w' := by
  have hen := ends_term t hf.ok hf.small
  rw [hf.flat] at hen
  have HTR := Lib.hid (truths_any v l t vl L c w h ht hf hL hc)
  have HEN := Lib.hid fun wx (hx : Ext w wx) => by have H := ends_any v l wx (h.ext hx) (ht.ext hx); rw [hen] at H; exact H
  have hl60 : l.length ≤ 60 := by rw [← hf.flat, Tm.flat_len]; exact hf.small
  have hpos : 0 < l.length := by rw [← hf.flat, Tm.flat_len]; exact t.size_pos
  have htl : (tvT L c t 0).length = l.length := by rw [tvT_len, ← Tm.flat_len, hf.flat]
  have hel : (t.ends 0).length = l.length := by rw [Tm.ends_len, ← Tm.flat_len, hf.flat]
  have HTV := Lib.hid fun i k v (hi : l[i]? = some (k, v)) => by have := tv_at L c t hf.ok i k v (by rw [hf.flat]; exact hi); rw [hf.flat] at this; exact this
  obtain ⟨a, cap, rfl, hr⟩ := h
  obtain ⟨al, cl, rfl, hrl⟩ := hL
  have HR := Lib.hid hr
  have HF := Lib.hid hf
  have hc6 := hf.cnt
  generalize t.ends 0 = es at *
  generalize tvT L c t 0 = tv at *
  have HTL := Lib.hid htl
  have HEL := Lib.hid hel
  clear hen hf hr hrl ht htl hel hc
  go_enter Tryz.func19, Tryz.ntmps19
  go_wp2_with fail
  refine HTR.out.mono ?_
  rintro e w1 ⟨D, rfl, hot, hE1⟩
  have HOT := Lib.hid hot
  have HE1 := Lib.hid hE1
  clear hot hE1 HTR
  go_wp2_with fail
  refine (HEN.out _ HE1.out).mono ?_
  rintro e w2 ⟨hE2, v2, rfl, hown2⟩
  obtain ⟨ae, ce, rfl, hre⟩ := hown2.row
  have HRE := Lib.hid hre
  have HE2 := Lib.hid (HE1.out.trans hE2)
  have HOT2 := Lib.hid (own_ext HOT.out hE2)
  clear hown2 hre hE2 HEN HE1 HOT
  go_wp2_with fail
  go_loopg [12, 13, 34] l.length (fun m y z x wr => ∃ i : Nat, m + i = l.length ∧ x = .int .i64 (i : Int) ∧ y = .int .i64 (meUp l es tv i : Int) ∧ z = .int .i64 (cntA (l.take i) : Int) ∧ Ext w2 wr)
  case atStart => exact ⟨0, by omega, by go_num, rfl, by simp [cntA], Ext.refl _⟩
  case round =>
    obtain ⟨i, hmi, rfl, rfl, rfl, hE⟩ := hrel
    have HMI := Lib.hid hmi
    have HE := Lib.hid hE
    by_cases hi : i < l.length
    · obtain ⟨b, off, hb, hcc⟩ := (HR.out.ext (HE2.out.trans hE)).ops
      obtain rfl := hb hpos
      obtain ⟨k1, k2⟩ := hcc i hi
      have hg : l.getD i (0, 0) = l[i] := by simp [List.getD, List.getElem?_eq_getElem hi]
      have hmu : meUp l es tv (i + 1) = if aheadB l[i].1 && metB l[i].1 es tv i then meUp l es tv i ||| 2 ^ cntA (l.take i) else meUp l es tv i := by rw [meUp, hg]
      have hcn := cntA_take l hi
      have hlt := meUp_lt l es tv i (by omega)
      have hle := cntA_take_le l i
      have hp6 : 2 ^ cntA (l.take i) ≤ 2 ^ 6 := Nat.pow_le_pow_right (by omega) (by omega)
      have htva := HTV.out i l[i].1 l[i].2 (List.getElem?_eq_getElem hi)
      obtain ⟨hf1, hf2, -, -⟩ := HF.out.fit l[i] (by simp)
      have hor := i64_or_nat (meUp l es tv i) (2 ^ cntA (l.take i)) (by omega) (by omega)
      have hpe : ((2 ^ cntA (l.take i) : Nat) : Int) = (2 : Int) ^ cntA (l.take i) := by push_cast; rfl
      have hw0 : IntKind.i64.wrap ((2 : Int) ^ cntA (l.take i)) = ((2 ^ cntA (l.take i) : Nat) : Int) := by rw [← hpe]; exact IntWalk.i64_in _ (by omega)
      have HAF := Lib.hid fun wx => ah_fn l[i].1 wx
      have HMU := Lib.hid hmu
      have HCN := Lib.hid hcn
      have HTA := Lib.hid htva
      have hiI : (i : Int) < (l.length : Int) := by omega
      have hi0 : (0 : Int) ≤ (i : Int) := by omega
      have hti : tv[i]? = some (tv.getD i false) := getD_some (by rw [HTL.out]; exact hi)
      have cT := own_bool (own_ext HOT2.out hE) hti
      have HOTR := Lib.hid (own_ext HOT2.out hE)
      have HRER := Lib.hid (HRE.out.ext hE)
      clear hcc hb hmu hcn htva hlt hp6 hpe hti hE hmi hg
      generalize meUp l es tv i = me at *
      generalize hme1 : meUp l es tv (i + 1) = me1 at *
      have HME1 := Lib.hid hme1
      clear hme1
      generalize hc0 : cntA (l.take i) = cn at *
      generalize 2 ^ cn = pc at *
      have HDW := Lib.hid fun (o : Op2) (x : Addr) (y : Value) (hc : wr.cell? x = some y) => cell_later (ext_al (Ext.refl wr) (Obj.cells #[.int .i64 o.1, .int .i64 o.2] 102)) hc
      replace cT := HDW.out l[i] _ _ cT
      generalize l[i] = o at *
      obtain ⟨k, u⟩ := o
      simp only at k1 k2 hf1 hf2 HAF HMU HCN HTA
      have hx := ext_al HE.out (Obj.cells #[.int .i64 k, .int .i64 u] 102)
      have HX := Lib.hid hx
      clear hx
      go_wp2_with fail
      refine (HAF.out _).mono ?_
      rintro e wq ⟨rfl, rfl⟩
      cases hah : aheadB k
      · have hmu := HMU.out
        have hcn := HCN.out
        rw [hah] at hmu hcn
        have HM2 := Lib.hid (show me1 = me by simpa using hmu)
        have HC2 := Lib.hid (show cntA (l.take (i + 1)) = cn by simpa using hcn)
        clear hmu hcn hah
        go_wp2_with fail
        go_roundg (gk - 1)
        case measure => have := HMI.out; omega
        case rel => exact ⟨i + 1, by have := HMI.out; omega, by go_num, by rw [HME1.out, HM2.out], by rw [HC2.out], HX.out⟩
      · have hmu := HMU.out
        have hcn := HCN.out
        rw [hah] at hmu hcn
        have HC2 := Lib.hid (show cntA (l.take (i + 1)) = cn + 1 by simpa using hcn)
        have hk14 : 14 ≤ k := by have := hah; unfold aheadB at this; simp only [decide_eq_true_eq] at this; exact this.1
        have hcn6 : cn ≤ 6 := by omega
        obtain ⟨b, hb⟩ : ∃ b, tv.getD i false = b := ⟨_, rfl⟩
        rw [hb] at cT
        clear hcn
        rcases (show k = 14 ∨ k = 15 ∨ k = 16 ∨ k = 17 ∨ k = 18 by omega) with rfl | rfl | rfl | rfl | rfl
        · 
          have HM2 := Lib.hid (show me1 = me ||| pc by simpa [metB] using hmu)
          clear hmu hah
          go_wp2_with fail
          go_roundg (gk - 1)
          case measure => have := HMI.out; omega
          case rel => exact ⟨i + 1, by have := HMI.out; omega, by go_num, by rw [HME1.out, HM2.out], by rw [HC2.out]; go_num, HX.out⟩
        · 
          obtain ⟨ht1, ht2, ht3⟩ := HTA.out.two rfl
          obtain ⟨s, hs⟩ : ∃ s, secAt es i = s := ⟨_, rfl⟩
          rw [hs] at ht1 ht2 ht3
          obtain ⟨b2, hb2⟩ : ∃ b, tv.getD s false = b := ⟨_, rfl⟩
          have hm : metB 15 es tv i = (!b || b2) := by rw [metB, if_neg (by decide), if_neg (by decide), if_pos rfl, hb, hs, hb2]
          rw [hm] at hmu
          have hts := getD_some (l := tv) (i := s) (by rw [HTL.out]; exact ht3)
          rw [hb2] at hts
          have cT2 := HDW.out (15, u) _ _ (own_bool HOTR.out hts)
          obtain ⟨be, oe, he1, he2⟩ := row_ints HRER.out
          obtain rfl := he1 (by rw [HEL.out]; exact hpos)
          have cE := HDW.out (15, u) _ _ (he2 _ _ ht1)
          have hsI : (s : Int) < (l.length : Int) := by omega
          have hs0 : (0 : Int) ≤ (s : Int) := by omega
          have hiE : (i : Int) + 1 < (es.length : Int) := by have := HEL.out; omega
          have hi10 : (0 : Int) ≤ (i : Int) + 1 := by omega
          have hit : ((i : Int) + 1).toNat = i + 1 := by omega
          clear hm hts he1 he2 ht1 ht2 ht3 hs hb hb2 hah
          cases b <;> cases b2
          all_goals
            first
              | have HM2 := Lib.hid (show me1 = me ||| pc from hmu)
              | have HM2 := Lib.hid (show me1 = me from hmu)
            clear hmu
            go_wp2_with fail
            go_roundg (gk - 1)
            case measure => have := HMI.out; omega
            case rel => exact ⟨i + 1, by have := HMI.out; omega, by go_num, by rw [HME1.out, HM2.out], by rw [HC2.out]; go_num, HX.out⟩
        · 
          obtain ⟨ht1, ht2, ht3⟩ := HTA.out.two rfl
          obtain ⟨s, hs⟩ : ∃ s, secAt es i = s := ⟨_, rfl⟩
          rw [hs] at ht1 ht2 ht3
          obtain ⟨b2, hb2⟩ : ∃ b, tv.getD s false = b := ⟨_, rfl⟩
          have hm : metB 16 es tv i = (b || !b2) := by rw [metB, if_neg (by decide), if_neg (by decide), if_neg (by decide), if_pos rfl, hb, hs, hb2]
          rw [hm] at hmu
          have hts := getD_some (l := tv) (i := s) (by rw [HTL.out]; exact ht3)
          rw [hb2] at hts
          have cT2 := HDW.out (16, u) _ _ (own_bool HOTR.out hts)
          obtain ⟨be, oe, he1, he2⟩ := row_ints HRER.out
          obtain rfl := he1 (by rw [HEL.out]; exact hpos)
          have cE := HDW.out (16, u) _ _ (he2 _ _ ht1)
          have hsI : (s : Int) < (l.length : Int) := by omega
          have hs0 : (0 : Int) ≤ (s : Int) := by omega
          have hiE : (i : Int) + 1 < (es.length : Int) := by have := HEL.out; omega
          have hi10 : (0 : Int) ≤ (i : Int) + 1 := by omega
          have hit : ((i : Int) + 1).toNat = i + 1 := by omega
          clear hm hts he1 he2 ht1 ht2 ht3 hs hb hb2 hah
          cases b <;> cases b2
          all_goals
            first
              | have HM2 := Lib.hid (show me1 = me ||| pc from hmu)
              | have HM2 := Lib.hid (show me1 = me from hmu)
            clear hmu
            go_wp2_with fail
            go_roundg (gk - 1)
            case measure => have := HMI.out; omega
            case rel => exact ⟨i + 1, by have := HMI.out; omega, by go_num, by rw [HME1.out, HM2.out], by rw [HC2.out]; go_num, HX.out⟩
        · 
          have hone := HTA.out.one (.inl rfl)
          obtain ⟨b1, hb1⟩ : ∃ b, tv.getD (i + 1) false = b := ⟨_, rfl⟩
          have hm : metB 17 es tv i = (!b || b1) := by rw [metB, if_pos rfl, hb, hb1]
          rw [hm] at hmu
          have hts := getD_some (l := tv) (i := i + 1) (by rw [HTL.out]; exact hone)
          rw [hb1] at hts
          have cT2 := HDW.out (17, u) _ _ (own_bool HOTR.out hts)
          have hiE : (i : Int) + 1 < (l.length : Int) := by omega
          have hi10 : (0 : Int) ≤ (i : Int) + 1 := by omega
          have hit : ((i : Int) + 1).toNat = i + 1 := by omega
          clear hm hts hone hb hb1 hah
          cases b <;> cases b1
          all_goals
            first
              | have HM2 := Lib.hid (show me1 = me ||| pc from hmu)
              | have HM2 := Lib.hid (show me1 = me from hmu)
            clear hmu
            go_wp2_with fail
            go_roundg (gk - 1)
            case measure => have := HMI.out; omega
            case rel => exact ⟨i + 1, by have := HMI.out; omega, by go_num, by rw [HME1.out, HM2.out], by rw [HC2.out]; go_num, HX.out⟩
        · 
          have hone := HTA.out.one (.inl rfl)
          obtain ⟨b1, hb1⟩ : ∃ b, tv.getD (i + 1) false = b := ⟨_, rfl⟩
          have hm : metB 18 es tv i = (b || !b1) := by rw [metB, if_neg (by decide), if_pos rfl, hb, hb1]
          rw [hm] at hmu
          have hts := getD_some (l := tv) (i := i + 1) (by rw [HTL.out]; exact hone)
          rw [hb1] at hts
          have cT2 := HDW.out (18, u) _ _ (own_bool HOTR.out hts)
          have hiE : (i : Int) + 1 < (l.length : Int) := by omega
          have hi10 : (0 : Int) ≤ (i : Int) + 1 := by omega
          have hit : ((i : Int) + 1).toNat = i + 1 := by omega
          clear hm hts hone hb hb1 hah
          cases b <;> cases b1
          all_goals
            first
              | have HM2 := Lib.hid (show me1 = me ||| pc from hmu)
              | have HM2 := Lib.hid (show me1 = me from hmu)
            clear hmu
            go_wp2_with fail
            go_roundg (gk - 1)
            case measure => have := HMI.out; omega
            case rel => exact ⟨i + 1, by have := HMI.out; omega, by go_num, by rw [HME1.out, HM2.out], by rw [HC2.out]; go_num, HX.out⟩
    · obtain rfl : i = l.length := by omega
      have hiI : ¬ (l.length : Int) < (l.length : Int) := by omega
      have HEW := Lib.hid (HE2.out.trans hE)
      clear hE hmi
      generalize hml : meUp l es tv l.length = me at *
      have HML := Lib.hid hml
      clear hml
      go_wp2
      go_ret2
      exact ⟨by rw [HML.out]; rfl, HEW.out⟩
end Go.Proofs.YtciihiiacbnimaaGreatDoor

namespace Go.Proofs.YtciihiiacbnimaaGreatDoor
def keepB (k : Int) (es : List Int) (now next : List Bool) (i : Nat) : Bool :=
  if k = 14 then now.getD i false == next.getD (i + 1) false
  else if k = 17 then now.getD i false == (now.getD (i + 1) false || next.getD i false)
  else if k = 18 then now.getD i false == (now.getD (i + 1) false && next.getD i false)
  else if k = 15 then now.getD i false == (now.getD (secAt es i) false || (now.getD (i + 1) false && next.getD i false))
  else now.getD i false == (now.getD (secAt es i) false && (now.getD (i + 1) false || next.getD i false))
def folB (l : List Op2) (es : List Int) (now next : List Bool) : Nat → Bool
  | 0 => true
  | i + 1 => folB l es now next i && (!aheadB (l.getD i (0, 0)).1 || keepB (l.getD i (0, 0)).1 es now next i)
theorem folB_iff (l : List Op2) (es : List Int) (now next : List Bool) : ∀ m, folB l es now next m = true ↔ ∀ p, p < m → aheadB (l.getD p (0, 0)).1 = true → keepB (l.getD p (0, 0)).1 es now next p = true
  | 0 => by simp [folB]
  | m + 1 => by
    rw [folB, Bool.and_eq_true, folB_iff l es now next m, Bool.or_eq_true, Bool.not_eq_true']
    constructor
    · rintro ⟨h1, h2⟩ p hp ha
      by_cases e : p = m
      · subst e
        rcases h2 with h2 | h2
        · rw [h2] at ha; cases ha
        · exact h2
      · exact h1 p (by omega) ha
    · intro h
      refine ⟨fun p hp => h p (by omega), ?_⟩
      cases ha : aheadB (l.getD m (0, 0)).1
      · exact .inl rfl
      · exact .inr (h m (by omega) ha)
section
variable {n back : Nat} {a b r : Nat → Bool}
theorem until_fair (hb : back < n) (hr : ∀ i, i < n → r i = (b i || (a i && r (nxt n back i)))) (hm : ∃ i, back ≤ i ∧ i < n ∧ (!r i || b i) = true) : ∀ i, i < n → (r i = true ↔ UntilP n back (fun j => a j = true) (fun j => b j = true) i) := by
  intro i hi
  constructor
  · intro h
    apply Classical.byContradiction
    intro hu
    have key : ∀ j, r (nxtN n back j i) = true ∧ ¬ UntilP n back (fun j => a j = true) (fun j => b j = true) (nxtN n back j i) := by
      intro j
      induction j with
      | zero => exact ⟨h, hu⟩
      | succ j ih =>
        obtain ⟨h1, h2⟩ := ih
        have e : nxtN n back (j + 1) i = nxt n back (nxtN n back j i) := by rw [nxtN_add]; rfl
        have hx := nxtN_lt hb j i hi
        rw [e]
        generalize nxtN n back j i = x at *
        rw [until_iff] at h2
        rw [hr x hx] at h1
        simp only [Bool.or_eq_true, Bool.and_eq_true] at h1
        rcases h1 with h1 | ⟨h1, h3⟩
        · exact absurd (.inl h1) h2
        · exact ⟨h3, fun h4 => h2 (.inr ⟨h1, h4⟩)⟩
    obtain ⟨i0, h0, h1, h2⟩ := hm
    obtain ⟨j, hj⟩ := nxtN_reach hi (k := i0) (by omega) h1 hb
    obtain ⟨k1, k2⟩ := key j
    rw [hj] at k1 k2
    rw [k1] at h2
    exact k2 ⟨0, (show b i0 = true by simpa using h2), fun m hm => by omega⟩
  · rintro ⟨j, h1, h2⟩
    induction j generalizing i with
    | zero => rw [hr i hi]; rw [show b i = true from h1]; rfl
    | succ j ih =>
      have h3 := ih (nxt n back i) (nxt_lt hb) h1 fun m hm => h2 (m + 1) (by omega)
      have h4 : a i = true := h2 0 (by omega)
      rw [hr i hi, h3, h4]; simp
theorem rel_fair (hb : back < n) (hr : ∀ i, i < n → r i = (b i && (a i || r (nxt n back i)))) (hm : ∃ i, back ≤ i ∧ i < n ∧ (r i || !b i) = true) : ∀ i, i < n → (r i = true ↔ RelP n back (fun j => a j = true) (fun j => b j = true) i) := by
  intro i hi
  have h := until_fair (a := fun j => !a j) (b := fun j => !b j) (r := fun j => !r j) hb (fun i hi => by
    show (!r i) = _
    rw [hr i hi]; simp [Bool.not_and, Bool.not_or]) (by
    obtain ⟨i, h1, h2, h3⟩ := hm
    exact ⟨i, h1, h2, by simpa using h3⟩) i hi
  rw [rel_not, ← not_congr (h.trans (until_congr (fun j => by simp) (fun j => by simp) i))]
  simp
end
def tvW (W : Wd) (c : Nat → Nat) (t : Tm) (i : Nat) : List Bool := tvT (W.ls.getD i []) (c i) t 0
theorem getD_of {l : List Bool} {i : Nat} {b : Bool} (h : l[i]? = some b) : l.getD i false = b := by simp [List.getD, h]
theorem getD_op {l : List Op2} {i : Nat} {o : Op2} (h : l[i]? = some o) : l.getD i (0, 0) = o := by simp [List.getD, h]
section
variable {W : Wd} {t : Tm} (ht : t.ok) {props : Int} (hfit : ∀ o ∈ t.flat, FitOp props o) {c : Nat → Nat}
include ht hfit
theorem claims_sat (hc : ∀ i, i < W.n → ∀ p s, (subs t)[p]? = some s → aheadB s.kd = true → (c i).testBit (cntA (t.flat.take p)) = satB W s i) :
    ∀ m p, t.size ≤ p + m → ∀ s, (subs t)[p]? = some s → ∀ i, i < W.n → (tvW W c t i).getD p false = satB W s i := by
  intro m
  induction m with
  | zero =>
    intro p hp s hs
    have := (List.getElem?_eq_some_iff.1 hs).1
    rw [subs_len] at this
    omega
  | succ m ih =>
    intro p hp s hs i hi
    have hps : p < t.size := by have := (List.getElem?_eq_some_iff.1 hs).1; rwa [subs_len] at this
    obtain ⟨s', hS⟩ := subs_at t ht p hps
    obtain rfl : s = s' := by have := hS.sub; rw [hs] at this; exact Option.some.inj this
    have hf := hfit _ (List.mem_of_getElem? hS.op)
    have hV : TvAt (W.ls.getD i []) (c i) t.flat (t.ends 0) (tvW W c t i) p s.kd s.vl := tv_at _ _ t ht p _ _ hS.op
    cases hah : aheadB s.kd with
    | true => rw [getD_of (hV.ah hah), hc i hi p s hs hah]
    | false =>
      rcases tm_cases hS.ok hf with ⟨v, rfl, _, _⟩ | rfl | rfl | ⟨a, rfl⟩ | ⟨a, rfl⟩ | ⟨a, rfl⟩ | ⟨a, rfl⟩ | ⟨a, b, rfl⟩ | ⟨a, b, rfl⟩ | ⟨a, b, rfl⟩ | ⟨a, b, rfl⟩
      · rw [getD_of (hV.prop rfl), satB_prop]; rfl
      · rw [getD_of (hV.yes rfl), satB_yes]
      · rw [getD_of (hV.no rfl), satB_no]
      · rw [getD_of (hV.not rfl), satB_not, ih (p + 1) (by omega) a (hS.one _ _ _ rfl) i hi]
      · cases hah
      · cases hah
      · cases hah
      · obtain ⟨g1, -, g3, g4⟩ := hS.two _ _ _ _ rfl
        rw [getD_of (hV.and rfl), satB_and, ih (p + 1) (by omega) a g1 i hi, ih _ (by omega) b g4 i hi]
      · obtain ⟨g1, -, g3, g4⟩ := hS.two _ _ _ _ rfl
        rw [getD_of (hV.or rfl), satB_or, ih (p + 1) (by omega) a g1 i hi, ih _ (by omega) b g4 i hi]
      · cases hah
      · cases hah
end
section
variable {W : Wd} (hb : W.back < W.n) {t : Tm} (ht : t.ok) {props : Int} (hfit : ∀ o ∈ t.flat, FitOp props o) {c : Nat → Nat}
include hb ht hfit
theorem line_sat (hk : ∀ i, i < W.n → ∀ p, p < t.size → aheadB (t.flat.getD p (0, 0)).1 = true → keepB (t.flat.getD p (0, 0)).1 (t.ends 0) (tvW W c t i) (tvW W c t (nxt W.n W.back i)) p = true)
    (hm : ∀ p, p < t.size → aheadB (t.flat.getD p (0, 0)).1 = true → ∃ i, W.back ≤ i ∧ i < W.n ∧ metB (t.flat.getD p (0, 0)).1 (t.ends 0) (tvW W c t i) p = true) :
    ∀ m p, t.size ≤ p + m → ∀ s, (subs t)[p]? = some s → ∀ i, i < W.n → (tvW W c t i).getD p false = satB W s i := by
  intro m
  induction m with
  | zero =>
    intro p hp s hs
    have := (List.getElem?_eq_some_iff.1 hs).1
    rw [subs_len] at this
    omega
  | succ m ih =>
    intro p hp s hs i hi
    have hps : p < t.size := by have := (List.getElem?_eq_some_iff.1 hs).1; rwa [subs_len] at this
    obtain ⟨s', hS⟩ := subs_at t ht p hps
    obtain rfl : s = s' := by have := hS.sub; rw [hs] at this; exact Option.some.inj this
    have hf := hfit _ (List.mem_of_getElem? hS.op)
    have hop := getD_op hS.op
    have hV : ∀ i, TvAt (W.ls.getD i []) (c i) t.flat (t.ends 0) (tvW W c t i) p s.kd s.vl := fun i => tv_at _ _ t ht p _ _ hS.op
    have hk' := fun i hi => hk i hi p hps
    have hm' := hm p hps
    rw [hop] at hm'
    simp only [hop] at hk'
    rcases tm_cases hS.ok hf with ⟨v, rfl, _, _⟩ | rfl | rfl | ⟨a, rfl⟩ | ⟨a, rfl⟩ | ⟨a, rfl⟩ | ⟨a, rfl⟩ | ⟨a, b, rfl⟩ | ⟨a, b, rfl⟩ | ⟨a, b, rfl⟩ | ⟨a, b, rfl⟩
    · rw [getD_of ((hV i).prop rfl), satB_prop]; rfl
    · rw [getD_of ((hV i).yes rfl), satB_yes]
    · rw [getD_of ((hV i).no rfl), satB_no]
    · rw [getD_of ((hV i).not rfl), satB_not, ih (p + 1) (by omega) a (hS.one _ _ _ rfl) i hi]
    · have h := hk' i hi rfl
      have h1 := ih (p + 1) (by omega) a (hS.one _ _ _ rfl) _ (nxt_lt (i := i) hb)
      simp only [Tm.kd, keepB, if_true, beq_iff_eq] at h
      rw [h, h1, satB_next]
    · have h1 := ih (p + 1) (by omega) a (hS.one _ _ _ rfl)
      have := until_fair (r := fun i => (tvW W c t i).getD p false) (a := fun _ => true) (b := satB W a) hb (fun i hi => by
        have h := hk' i hi rfl
        simp only [Tm.kd, keepB, show ¬ (17 : Int) = 14 by decide, if_true, if_false, beq_iff_eq] at h
        rw [h1 i hi] at h
        simpa using h) (by
        obtain ⟨i, e1, e2, e3⟩ := hm' rfl
        refine ⟨i, e1, e2, ?_⟩
        simp only [Tm.kd, metB, if_true] at e3
        rw [h1 i e2] at e3
        exact e3) i hi
      exact Bool.eq_iff_iff.2 (this.trans (satB_fin W 0 a i).symm)
    · have h1 := ih (p + 1) (by omega) a (hS.one _ _ _ rfl)
      have := rel_fair (r := fun i => (tvW W c t i).getD p false) (a := fun _ => false) (b := satB W a) hb (fun i hi => by
        have h := hk' i hi rfl
        simp only [Tm.kd, keepB, show ¬ (18 : Int) = 14 by decide, show ¬ (18 : Int) = 17 by decide, if_true, if_false, beq_iff_eq] at h
        rw [h1 i hi] at h
        simpa using h) (by
        obtain ⟨i, e1, e2, e3⟩ := hm' rfl
        refine ⟨i, e1, e2, ?_⟩
        simp only [Tm.kd, metB, show ¬ (18 : Int) = 17 by decide, if_true, if_false] at e3
        rw [h1 i e2] at e3
        exact e3) i hi
      exact Bool.eq_iff_iff.2 (this.trans (satB_glo W 0 a i).symm)
    · obtain ⟨g1, -, g3, g4⟩ := hS.two _ _ _ _ rfl
      rw [getD_of ((hV i).and rfl), satB_and, ih (p + 1) (by omega) a g1 i hi, ih _ (by omega) b g4 i hi]
    · obtain ⟨g1, -, g3, g4⟩ := hS.two _ _ _ _ rfl
      rw [getD_of ((hV i).or rfl), satB_or, ih (p + 1) (by omega) a g1 i hi, ih _ (by omega) b g4 i hi]
    · obtain ⟨g1, -, g3, g4⟩ := hS.two _ _ _ _ rfl
      have h1 := ih (p + 1) (by omega) a g1
      have h2 := ih _ (by omega) b g4
      have := until_fair (r := fun i => (tvW W c t i).getD p false) (a := satB W a) (b := satB W b) hb (fun i hi => by
        have h := hk' i hi rfl
        simp only [Tm.kd, keepB, show ¬ (15 : Int) = 14 by decide, show ¬ (15 : Int) = 17 by decide, show ¬ (15 : Int) = 18 by decide, if_true, if_false, beq_iff_eq] at h
        rw [h1 i hi, h2 i hi] at h
        exact h) (by
        obtain ⟨i, e1, e2, e3⟩ := hm' rfl
        refine ⟨i, e1, e2, ?_⟩
        simp only [Tm.kd, metB, show ¬ (15 : Int) = 17 by decide, show ¬ (15 : Int) = 18 by decide, if_true, if_false] at e3
        rw [h2 i e2] at e3
        exact e3) i hi
      exact Bool.eq_iff_iff.2 (this.trans (satB_unt W 0 a b i).symm)
    · obtain ⟨g1, -, g3, g4⟩ := hS.two _ _ _ _ rfl
      have h1 := ih (p + 1) (by omega) a g1
      have h2 := ih _ (by omega) b g4
      have := rel_fair (r := fun i => (tvW W c t i).getD p false) (a := satB W a) (b := satB W b) hb (fun i hi => by
        have h := hk' i hi rfl
        simp only [Tm.kd, keepB, show ¬ (16 : Int) = 14 by decide, show ¬ (16 : Int) = 17 by decide, show ¬ (16 : Int) = 18 by decide, show ¬ (16 : Int) = 15 by decide, if_false, beq_iff_eq] at h
        rw [h1 i hi, h2 i hi] at h
        exact h) (by
        obtain ⟨i, e1, e2, e3⟩ := hm' rfl
        refine ⟨i, e1, e2, ?_⟩
        simp only [Tm.kd, metB, show ¬ (16 : Int) = 17 by decide, show ¬ (16 : Int) = 18 by decide, show ¬ (16 : Int) = 15 by decide, if_true, if_false] at e3
        rw [h2 i e2] at e3
        exact e3) i hi
      exact Bool.eq_iff_iff.2 (this.trans (satB_rel W 0 a b i).symm)
theorem sat_keeps (hs : ∀ p s, (subs t)[p]? = some s → ∀ i, i < W.n → (tvW W c t i).getD p false = satB W s i) (i : Nat) (hi : i < W.n) (p : Nat) (hp : p < t.size) (ha : aheadB (t.flat.getD p (0, 0)).1 = true) :
    keepB (t.flat.getD p (0, 0)).1 (t.ends 0) (tvW W c t i) (tvW W c t (nxt W.n W.back i)) p = true := by
  obtain ⟨s, hS⟩ := subs_at t ht p hp
  have hf := hfit _ (List.mem_of_getElem? hS.op)
  have hx := nxt_lt (i := i) hb
  rw [getD_op hS.op] at ha ⊢
  have h0 := hs p s hS.sub
  rcases tm_cases hS.ok hf with ⟨v, rfl, _, _⟩ | rfl | rfl | ⟨a, rfl⟩ | ⟨a, rfl⟩ | ⟨a, rfl⟩ | ⟨a, rfl⟩ | ⟨a, b, rfl⟩ | ⟨a, b, rfl⟩ | ⟨a, b, rfl⟩ | ⟨a, b, rfl⟩
  · cases ha
  · cases ha
  · cases ha
  · cases ha
  · have h1 := hs _ _ (hS.one _ _ _ rfl)
    simp only [Tm.kd, keepB, if_true, beq_iff_eq]
    rw [h0 i hi, h1 _ hx, satB_next]
  · have h1 := hs _ _ (hS.one _ _ _ rfl)
    simp only [Tm.kd, keepB, show ¬ (17 : Int) = 14 by decide, if_true, if_false, beq_iff_eq]
    rw [h0 i hi, h1 _ hi, h0 _ hx, now_fin]
  · have h1 := hs _ _ (hS.one _ _ _ rfl)
    simp only [Tm.kd, keepB, show ¬ (18 : Int) = 14 by decide, show ¬ (18 : Int) = 17 by decide, if_true, if_false, beq_iff_eq]
    rw [h0 i hi, h1 _ hi, h0 _ hx, now_glo]
  · cases ha
  · cases ha
  · obtain ⟨g1, -, g3, g4⟩ := hS.two _ _ _ _ rfl
    simp only [Tm.kd, keepB, show ¬ (15 : Int) = 14 by decide, show ¬ (15 : Int) = 17 by decide, show ¬ (15 : Int) = 18 by decide, if_true, if_false, beq_iff_eq]
    rw [h0 i hi, hs _ _ g1 _ hi, hs _ _ g4 _ hi, h0 _ hx, now_unt]
  · obtain ⟨g1, -, g3, g4⟩ := hS.two _ _ _ _ rfl
    simp only [Tm.kd, keepB, show ¬ (16 : Int) = 14 by decide, show ¬ (16 : Int) = 17 by decide, show ¬ (16 : Int) = 18 by decide, show ¬ (16 : Int) = 15 by decide, if_false, beq_iff_eq]
    rw [h0 i hi, hs _ _ g1 _ hi, hs _ _ g4 _ hi, h0 _ hx, now_rel]
theorem sat_meets (hs : ∀ p s, (subs t)[p]? = some s → ∀ i, i < W.n → (tvW W c t i).getD p false = satB W s i) (p : Nat) (hp : p < t.size) (ha : aheadB (t.flat.getD p (0, 0)).1 = true) :
    ∃ i, W.back ≤ i ∧ i < W.n ∧ metB (t.flat.getD p (0, 0)).1 (t.ends 0) (tvW W c t i) p = true := by
  obtain ⟨s, hS⟩ := subs_at t ht p hp
  have hf := hfit _ (List.mem_of_getElem? hS.op)
  rw [getD_op hS.op] at ha ⊢
  have h0 := hs p s hS.sub
  have hin : ∀ j, W.back ≤ nxtN W.n W.back j W.back ∧ nxtN W.n W.back j W.back < W.n := fun j => ⟨by have := nxtN_min (n := W.n) (back := W.back) j W.back; omega, nxtN_lt hb j _ hb⟩
  rcases tm_cases hS.ok hf with ⟨v, rfl, _, _⟩ | rfl | rfl | ⟨a, rfl⟩ | ⟨a, rfl⟩ | ⟨a, rfl⟩ | ⟨a, rfl⟩ | ⟨a, b, rfl⟩ | ⟨a, b, rfl⟩ | ⟨a, b, rfl⟩ | ⟨a, b, rfl⟩
  · cases ha
  · cases ha
  · cases ha
  · cases ha
  · exact ⟨W.back, Nat.le_refl _, hb, rfl⟩
  · have h1 := hs _ _ (hS.one _ _ _ rfl)
    simp only [Tm.kd, metB, if_true]
    cases hx : satB W (.n1 17 0 a) W.back
    · exact ⟨W.back, Nat.le_refl _, hb, by rw [h0 _ hb, hx]; rfl⟩
    · rw [satB_iff, sat_fin] at hx
      obtain ⟨j, hj⟩ := hx
      exact ⟨_, (hin j).1, (hin j).2, by rw [h1 _ (hin j).2, satB_iff.2 hj]; simp⟩
  · have h1 := hs _ _ (hS.one _ _ _ rfl)
    simp only [Tm.kd, metB, show ¬ (18 : Int) = 17 by decide, if_true, if_false]
    cases hx : satB W (.n1 18 0 a) W.back
    · have hx' : ¬ Sat W (.n1 18 0 a) W.back := fun h => by rw [satB_iff.2 h] at hx; cases hx
      rw [sat_glo] at hx'
      obtain ⟨j, hj⟩ := Classical.not_forall.1 hx'
      exact ⟨_, (hin j).1, (hin j).2, by
        have e : satB W a (nxtN W.n W.back j W.back) = false := by
          cases e : satB W a (nxtN W.n W.back j W.back)
          · rfl
          · exact absurd (satB_iff.1 e) hj
        rw [h1 _ (hin j).2, e]; simp⟩
    · exact ⟨W.back, Nat.le_refl _, hb, by rw [h0 _ hb, hx]; rfl⟩
  · cases ha
  · cases ha
  · obtain ⟨g1, -, g3, g4⟩ := hS.two _ _ _ _ rfl
    simp only [Tm.kd, metB, show ¬ (15 : Int) = 17 by decide, show ¬ (15 : Int) = 18 by decide, if_true, if_false]
    cases hx : satB W (.n2 15 0 a b) W.back
    · exact ⟨W.back, Nat.le_refl _, hb, by rw [h0 _ hb, hx]; rfl⟩
    · rw [satB_iff, sat_unt] at hx
      obtain ⟨j, hj, _⟩ := hx
      exact ⟨_, (hin j).1, (hin j).2, by rw [hs _ _ g4 _ (hin j).2, satB_iff.2 hj]; simp⟩
  · obtain ⟨g1, -, g3, g4⟩ := hS.two _ _ _ _ rfl
    simp only [Tm.kd, metB, show ¬ (16 : Int) = 17 by decide, show ¬ (16 : Int) = 18 by decide, show ¬ (16 : Int) = 15 by decide, if_true, if_false]
    cases hx : satB W (.n2 16 0 a b) W.back
    · have hx' : ¬ Sat W (.n2 16 0 a b) W.back := fun h => by rw [satB_iff.2 h] at hx; cases hx
      rw [sat_rel, rel_not] at hx'
      obtain ⟨j, hj, _⟩ := Classical.not_not.1 hx'
      exact ⟨_, (hin j).1, (hin j).2, by
        have e : satB W b (nxtN W.n W.back j W.back) = false := by
          cases e : satB W b (nxtN W.n W.back j W.back)
          · rfl
          · exact absurd (satB_iff.1 e) hj
        rw [hs _ _ g4 _ (hin j).2, e]; simp⟩
    · exact ⟨W.back, Nat.le_refl _, hb, by rw [h0 _ hb, hx]; rfl⟩
end
end Go.Proofs.YtciihiiacbnimaaGreatDoor

namespace Go.Proofs.YtciihiiacbnimaaGreatDoor
open Go.RowKit
structure Fm (t : Tm) (m c : Nat) : Prop where
  ok : t.ok
  fit : ∀ o ∈ t.flat, FitOp 3 o
  size : t.size ≤ m
  cnt : cntA t.flat ≤ c
theorem Fm.one {t : Tm} {m c : Nat} (h : Fm t m c) (k : Int) (m' c' : Nat) (hk : (k = 10 ∧ c ≤ c') ∨ ((k = 14 ∨ k = 17 ∨ k = 18) ∧ c + 1 ≤ c')) (hm : m + 1 ≤ m') : Fm (.n1 k 0 t) m' c' := by
  have hk2 : k = 10 ∨ k = 14 ∨ k = 17 ∨ k = 18 := by omega
  refine ⟨⟨by omega, by omega, by unfold partsOf; rw [if_neg (by omega), if_pos (by omega)], h.ok⟩, ?_, by have := h.size; simp only [Tm.size]; omega, ?_⟩
  · intro o ho
    rcases List.mem_cons.1 ho with rfl | ho
    · exact ⟨by simp only; omega, by simp only; omega, fun h => by simp only at h; omega, fun _ => rfl⟩
    · exact h.fit o ho
  · have := h.cnt
    simp only [Tm.flat, cntA]
    rcases hk with ⟨rfl, h1⟩ | ⟨h1, h2⟩
    · simp [aheadB]; omega
    · split <;> omega
theorem Fm.two {a b : Tm} {m c n d : Nat} (h : Fm a m c) (g : Fm b n d) (k : Int) (m' c' : Nat) (hk : ((k = 8 ∨ k = 9) ∧ c + d ≤ c') ∨ ((k = 15 ∨ k = 16) ∧ c + d + 1 ≤ c')) (hm : m + n + 1 ≤ m') : Fm (.n2 k 0 a b) m' c' := by
  have hk2 : k = 8 ∨ k = 9 ∨ k = 15 ∨ k = 16 := by omega
  refine ⟨⟨by omega, by omega, by unfold partsOf; rw [if_pos (by omega)], h.ok, g.ok⟩, ?_, by have := h.size; have := g.size; simp only [Tm.size]; omega, ?_⟩
  · intro o ho
    rcases List.mem_cons.1 ho with rfl | ho
    · exact ⟨by simp only; omega, by simp only; omega, fun h => by simp only at h; omega, fun _ => rfl⟩
    · rcases List.mem_append.1 ho with ho | ho
      · exact h.fit o ho
      · exact g.fit o ho
  · have := h.cnt
    have := g.cnt
    simp only [Tm.flat, cntA, cntA_app]
    rcases hk with ⟨h1, h2⟩ | ⟨h1, h2⟩
    · rw [if_neg (by unfold aheadB; simp only [decide_eq_true_eq]; omega)]; omega
    · split <;> omega
theorem fm_for (raw : List Op2) (k : Nat) : Fm (forO raw 3 k) 17 k := by
  have h1 := fT_small raw 3 4 k
  have h2 := fT_cnt raw 3 4 0 k
  exact ⟨fT_ok raw 3 4 0 k, fT_fit raw 3 4 0 k, by unfold forO; omega, by unfold forO; omega⟩
end Go.Proofs.YtciihiiacbnimaaGreatDoor

namespace Go.Proofs.YtciihiiacbnimaaGreatDoor
def clU (f : Nat → Nat → Bool) : Nat → Nat → Nat
  | 0, _ => 0
  | b + 1, i => if f b i then clU f b i ||| 2 ^ b else clU f b i
theorem clU_lt (f : Nat → Nat → Bool) (i : Nat) : ∀ b, clU f b i < 2 ^ b
  | 0 => by simp [clU]
  | b + 1 => by
    have ih := clU_lt f i b
    unfold clU
    split
    · exact Nat.or_lt_two_pow (Nat.lt_of_lt_of_le ih (Nat.pow_le_pow_right (by omega) (by omega))) (Nat.pow_lt_pow_right (by omega) (by omega))
    · exact Nat.lt_of_lt_of_le ih (Nat.pow_le_pow_right (by omega) (by omega))
theorem clU_bit (f : Nat → Nat → Bool) (i j : Nat) : ∀ b, (clU f b i).testBit j = (decide (j < b) && f j i)
  | 0 => by simp [clU]
  | b + 1 => by
    have ih := clU_bit f i j b
    unfold clU
    by_cases e : j = b
    · subst e
      cases hf : f j i
      · simp [ih]
      · simp [Nat.testBit_or, ih, Nat.testBit_two_pow_self]
    · have e2 : decide (j < b + 1) = decide (j < b) := by congr 1; simp; omega
      split
      · rw [Nat.testBit_or, ih, Nat.testBit_two_pow_of_ne (Ne.symm e), e2]; simp
      · rw [ih, e2]
noncomputable def ahB (W : Wd) (t : Tm) (b i : Nat) : Bool := match (subs t)[(plUp t.flat t.flat.length).getD b 0]? with
  | some s => satB W s i
  | none => false
end Go.Proofs.YtciihiiacbnimaaGreatDoor

namespace Go.Proofs.YtciihiiacbnimaaGreatDoor
theorem plUp_at (l : List Op2) (p : Nat) (ha : aheadB (l.getD p (0, 0)).1 = true) : ∀ i, i ≤ l.length → p < i → (plUp l i)[cntA (l.take p)]? = some p
  | 0, _, h => by omega
  | i + 1, hi, h => by
    unfold plUp
    by_cases e : p = i
    · subst e
      rw [if_pos ha, List.getElem?_append_right (by rw [plUp_len l p (by omega)]; exact Nat.le_refl _), plUp_len l p (by omega)]
      simp
    · have ih := plUp_at l p ha i (by omega) (by omega)
      split
      · rw [List.getElem?_append_left (List.getElem?_eq_some_iff.1 ih).1]; exact ih
      · exact ih
theorem ah_inj (l : List Op2) {p q : Nat} (hp : p < l.length) (hq : q < l.length) (ha : aheadB (l.getD p (0, 0)).1 = true) (hb : aheadB (l.getD q (0, 0)).1 = true) (h : cntA (l.take p) = cntA (l.take q)) : p = q := by
  have h1 := plUp_at l p ha l.length (Nat.le_refl _) hp
  have h2 := plUp_at l q hb l.length (Nat.le_refl _) hq
  rw [h, h2] at h1
  exact (Option.some.inj h1).symm
theorem meUp_bit (l : List Op2) (es : List Int) (tv : List Bool) (b : Nat) : ∀ i, i ≤ l.length → ((meUp l es tv i).testBit b = true ↔ ∃ p, p < i ∧ aheadB (l.getD p (0, 0)).1 = true ∧ metB (l.getD p (0, 0)).1 es tv p = true ∧ cntA (l.take p) = b)
  | 0, _ => by simp [meUp]
  | i + 1, hi => by
    have ih := meUp_bit l es tv b i (by omega)
    unfold meUp
    split
    · rename_i e
      simp only [Bool.and_eq_true] at e
      rw [Nat.testBit_or, Bool.or_eq_true, ih, Nat.testBit_two_pow]
      simp only [decide_eq_true_eq]
      constructor
      · rintro (⟨p, h1, h2⟩ | h)
        · exact ⟨p, by omega, h2⟩
        · exact ⟨i, by omega, e.1, e.2, h⟩
      · rintro ⟨p, h1, h2, h3, h4⟩
        by_cases hp : p = i
        · subst hp; exact .inr h4
        · exact .inl ⟨p, by omega, h2, h3, h4⟩
    · rename_i e
      rw [ih]
      constructor
      · rintro ⟨p, h1, h2⟩
        exact ⟨p, by omega, h2⟩
      · rintro ⟨p, h1, h2, h3, h4⟩
        by_cases hp : p = i
        · subst hp; exact absurd (by rw [h2, h3]; rfl) e
        · exact ⟨p, by omega, h2, h3, h4⟩
def macc (m : Nat → Nat) (back : Nat) : Nat → Nat
  | 0 => 0
  | i + 1 => if back ≤ i then macc m back i ||| m i else macc m back i
theorem macc_bit (m : Nat → Nat) (back b : Nat) : ∀ i, (macc m back i).testBit b = true ↔ ∃ j, back ≤ j ∧ j < i ∧ (m j).testBit b = true
  | 0 => by simp [macc]
  | i + 1 => by
    have ih := macc_bit m back b i
    unfold macc
    split
    · rename_i e
      rw [Nat.testBit_or, Bool.or_eq_true, ih]
      constructor
      · rintro (⟨j, h1, h2, h3⟩ | h)
        · exact ⟨j, h1, by omega, h3⟩
        · exact ⟨i, e, by omega, h⟩
      · rintro ⟨j, h1, h2, h3⟩
        by_cases hj : j = i
        · subst hj; exact .inr h3
        · exact .inl ⟨j, h1, by omega, h3⟩
    · rename_i e
      rw [ih]
      exact ⟨fun ⟨j, h1, h2, h3⟩ => ⟨j, h1, by omega, h3⟩, fun ⟨j, h1, h2, h3⟩ => ⟨j, h1, by omega, h3⟩⟩
theorem macc_lt {m : Nat → Nat} {N : Nat} (h : ∀ j, m j < 2 ^ N) (back : Nat) : ∀ i, macc m back i < 2 ^ N
  | 0 => Nat.two_pow_pos N
  | i + 1 => by
    unfold macc
    split
    · exact Nat.or_lt_two_pow (macc_lt h back i) (h i)
    · exact macc_lt h back i
theorem full_iff {x N : Nat} (h : x < 2 ^ N) : x = 2 ^ N - 1 ↔ ∀ b, b < N → x.testBit b = true := by
  constructor
  · rintro rfl b hb
    rw [Nat.testBit_two_pow_sub_one]; simpa using hb
  · intro h2
    apply Nat.eq_of_testBit_eq
    intro b
    rw [Nat.testBit_two_pow_sub_one]
    by_cases hb : b < N
    · rw [h2 b hb]; simp [hb]
    · rw [Nat.testBit_lt_two_pow (Nat.lt_of_lt_of_le h (Nat.pow_le_pow_right (by omega) (by omega)))]; simp [hb]
def metN (W : Wd) (t : Tm) (c : Nat → Nat) (i : Nat) : Nat := meUp t.flat (t.ends 0) (tvW W c t i) t.flat.length
def folN (W : Wd) (t : Tm) (c : Nat → Nat) (i : Nat) : Bool := folB t.flat (t.ends 0) (tvW W c t i) (tvW W c t (nxt W.n W.back i)) t.flat.length
theorem metN_lt (W : Wd) (t : Tm) (c : Nat → Nat) (i : Nat) : metN W t c i < 2 ^ cntA t.flat := by
  have := meUp_lt t.flat (t.ends 0) (tvW W c t i) t.flat.length (Nat.le_refl _)
  rwa [List.take_length] at this
section
variable {W : Wd} (hb : W.back < W.n) {t : Tm} (ht : t.ok) {props : Int} (hfit : ∀ o ∈ t.flat, FitOp props o)
include hb ht hfit
theorem ahB_at {p : Nat} {s : Tm} (hs : (subs t)[p]? = some s) (ha : aheadB s.kd = true) (i : Nat) : ahB W t (cntA (t.flat.take p)) i = satB W s i := by
  have _ := hb
  have _ := hfit
  have hp : p < t.size := by have := (List.getElem?_eq_some_iff.1 hs).1; rwa [subs_len] at this
  obtain ⟨s', hS⟩ := subs_at t ht p hp
  obtain rfl : s = s' := by have := hS.sub; rw [hs] at this; exact Option.some.inj this
  have h := plUp_at t.flat p (by rw [getD_op hS.op]; exact ha) t.flat.length (Nat.le_refl _) (by rw [Tm.flat_len]; exact hp)
  unfold ahB
  have e : (plUp t.flat t.flat.length).getD (cntA (t.flat.take p)) 0 = p := by simp [List.getD, h]
  rw [e, hs]
theorem cnt_lt {p : Nat} (hp : p < t.size) (ha : aheadB (t.flat.getD p (0, 0)).1 = true) : cntA (t.flat.take p) < cntA t.flat := by
  have _ := hb
  have _ := ht
  have _ := hfit
  have hl : p < t.flat.length := by rw [Tm.flat_len]; exact hp
  have h1 := cntA_take t.flat hl
  have h2 := cntA_take_le t.flat (p + 1)
  have hg : t.flat.getD p (0, 0) = t.flat[p] := by simp [List.getD, List.getElem?_eq_getElem hl]
  rw [hg] at ha
  rw [ha] at h1
  simp only [if_true] at h1
  omega
theorem claims_bits {N : Nat} (hN : cntA t.flat = N) {c : Nat → Nat} (hc : ∀ i, i < W.n → c i = clU (ahB W t) N i) :
    ∀ i, i < W.n → ∀ p s, (subs t)[p]? = some s → aheadB s.kd = true → (c i).testBit (cntA (t.flat.take p)) = satB W s i := by
  intro i hi p s hs ha
  have hp : p < t.size := by have := (List.getElem?_eq_some_iff.1 hs).1; rwa [subs_len] at this
  obtain ⟨s', hS⟩ := subs_at t ht p hp
  obtain rfl : s = s' := by have := hS.sub; rw [hs] at this; exact Option.some.inj this
  have hl := cnt_lt hb ht hfit hp (by rw [getD_op hS.op]; exact ha)
  rw [hc i hi, clU_bit, ahB_at hb ht hfit hs ha i]
  simp; omega
theorem claims_tv {N : Nat} (hN : cntA t.flat = N) {c : Nat → Nat} (hc : ∀ i, i < W.n → c i = clU (ahB W t) N i) (p : Nat) (s : Tm) (hs : (subs t)[p]? = some s) (i : Nat) (hi : i < W.n) : (tvW W c t i).getD p false = satB W s i :=
  claims_sat ht hfit (claims_bits hb ht hfit hN hc) t.size p (by omega) s hs i hi
theorem line_iff {N : Nat} (hN : cntA t.flat = N) {c : Nat → Nat} (hc : ∀ i, i < W.n → c i < 2 ^ N) :
    ((∀ i, i < W.n → folN W t c i = true) ∧ macc (metN W t c) W.back W.n = 2 ^ N - 1) ↔ ∀ i, i < W.n → c i = clU (ahB W t) N i := by
  have hm : macc (metN W t c) W.back W.n < 2 ^ N := macc_lt (fun j => by rw [← hN]; exact metN_lt W t c j) _ _
  rw [full_iff hm]
  constructor
  · rintro ⟨h1, h2⟩ i hi
    have key := line_sat hb ht hfit (c := c) (fun i hi p hp ha => (folB_iff _ _ _ _ _).1 (h1 i hi) p (by rw [Tm.flat_len]; exact hp) ha) (fun p hp ha => by
      have hl := cnt_lt hb ht hfit hp ha
      obtain ⟨j, e1, e2, e3⟩ := (macc_bit _ _ _ _).1 (h2 _ (by rw [← hN]; exact hl))
      obtain ⟨q, q1, q2, q3, q4⟩ := (meUp_bit _ _ _ _ _ (Nat.le_refl _)).1 e3
      obtain rfl : q = p := ah_inj t.flat q1 (by rw [Tm.flat_len]; exact hp) q2 ha q4
      exact ⟨j, e1, e2, q3⟩) t.size
    apply Nat.eq_of_testBit_eq
    intro b
    rw [clU_bit]
    by_cases hbN : b < N
    · have hlen : (plUp t.flat t.flat.length).length = N := by rw [plUp_len t.flat _ (Nat.le_refl _), List.take_length]; exact hN
      have hq := List.getElem?_eq_getElem (show b < (plUp t.flat t.flat.length).length by omega)
      generalize (plUp t.flat t.flat.length)[b] = p at hq
      obtain ⟨p1, p2, p3⟩ := plUp_get t.flat _ (Nat.le_refl _) b p hq
      rw [Tm.flat_len] at p1
      obtain ⟨s, hS⟩ := subs_at t ht p p1
      have ha : aheadB s.kd = true := by rw [getD_op hS.op] at p2; exact p2
      have hv := (tv_at (W.ls.getD i []) (c i) t ht p _ _ hS.op).ah ha
      rw [p3] at hv
      have hk := key p (by omega) s hS.sub i hi
      rw [show tvW W c t i = tvT (W.ls.getD i []) (c i) t 0 from rfl, getD_of hv] at hk
      have hA := ahB_at hb ht hfit hS.sub ha i
      rw [p3] at hA
      rw [hk, hA]
      simp [hbN]
    · rw [Nat.testBit_lt_two_pow (Nat.lt_of_lt_of_le (hc i hi) (Nat.pow_le_pow_right (by omega) (by omega)))]
      simp [hbN]
  · intro h
    have hs := claims_tv hb ht hfit hN h
    refine ⟨fun i hi => (folB_iff _ _ _ _ _).2 fun p hp ha => sat_keeps hb ht hfit hs i hi p (by rwa [Tm.flat_len] at hp) ha, fun b hbN => (macc_bit _ _ _ _).2 ?_⟩
    have hlen : (plUp t.flat t.flat.length).length = N := by rw [plUp_len t.flat _ (Nat.le_refl _), List.take_length]; exact hN
    have hq := List.getElem?_eq_getElem (show b < (plUp t.flat t.flat.length).length by omega)
    generalize (plUp t.flat t.flat.length)[b] = p at hq
    obtain ⟨p1, p2, p3⟩ := plUp_get t.flat _ (Nat.le_refl _) b p hq
    obtain ⟨j, e1, e2, e3⟩ := sat_meets hb ht hfit hs p (by rwa [Tm.flat_len] at p1) p2
    exact ⟨j, e1, e2, (meUp_bit _ _ _ _ _ (Nat.le_refl _)).2 ⟨p, p1, p2, e3, p3⟩⟩
end
end Go.Proofs.YtciihiiacbnimaaGreatDoor

namespace Go.Proofs.YtciihiiacbnimaaGreatDoor
open Go.RowKit
theorem Tryz.slBoolss : SlTy Tryz.prog 50 53 (.slice none 0 0) 1 24 := SlTy.mk' Tryz.underlying50 (by kernel_rfl) (by rfl) (by omega)
set_option maxRecDepth 100000 in
set_option maxHeartbeats 2000000 in
theorem grow_any (n : Nat) (w : World) (h0 : 0 < n) (hn : n ≤ 1000) :
    Calls Tryz.prog 83 #[.slice none 0 0, .int .i64 (n : Int)] w fun e w' => ∃ c, e = .returned (.slice (some ⟨w.heap.size, 0, none⟩) 0 c) ∧ n ≤ c ∧ w'.ownsRow w.heap.size 53 1 (.slice (some ⟨w.heap.size, 0, none⟩) 0 c) 0 [] ∧ Ext w w' := by
  obtain ⟨i, hi, hz, hs, hby⟩ := Tryz.slBoolss.inf
  have hr := Lib.run_append_nil_zeros (P := Tryz.prog) w 50 3 50 53 i (.slice none 0 0) .i64 .i64 Tryz.slBoolss.und Tryz.underlying3 hi hz n h0 (by omega) (by omega) (by rw [hby]; omega)
  have hge := grownCap_ge w n 0 53
  have hle := grownCap_le_maxLen w n 0 53 (by unfold maxLen; omega)
  generalize grownCap w n 0 53 = cap at *
  have hcs : (Builtin.zeroCells (Value.cells (.slice none 0 0)) n ++ Builtin.zeroCells (Value.cells (.slice none 0 0)) (cap - n)).size = cap * 1 := by
    simp [Builtin.zeroCells, Value.cells]
    omega
  have hown := World.ownsRow_made (base := w.heap.size) (e := 53) (size := 1) w.drew (Builtin.zeroCells (Value.cells (.slice none 0 0)) n ++ Builtin.zeroCells (Value.cells (.slice none 0 0)) (cap - n)) cap (Nat.le_refl _) hle hcs
  have hE : Ext w (w.drew.alloc (.cells (Builtin.zeroCells (Value.cells (.slice none 0 0)) n ++ Builtin.zeroCells (Value.cells (.slice none 0 0)) (cap - n)) 53)) := ext_al (Below.drew (Ext.refl w)) _
  generalize Builtin.zeroCells (Value.cells (.slice none 0 0)) n ++ Builtin.zeroCells (Value.cells (.slice none 0 0)) (cap - n) = cur at *
  have HO := Lib.hid hown
  have HE := Lib.hid hE
  have hnI : (0 : Int) < (n : Int) := by omega
  have hnI2 : ¬ (n : Int) < 0 := by omega
  unfold maxLen at hle
  clear hown hE hcs hi hz hs hby
  go_enter Tryz.func83, Tryz.ntmps83
  go_wp2_with (at_builtin; go_must (refine Lib.wpList_append_run w rfl _ _ 50 3 rfl _ _ rfl rfl _ _ hr ?_))
  go_wp2
  go_ret
  exact ⟨cap, rfl, hge, HO.out, HE.out⟩
set_option maxRecDepth 100000 in
set_option maxHeartbeats 2000000 in
theorem concat_two (w : World) (p aA aB : Option Addr) (c nA cA nB cB : Nat) (xA xB : List Value) (h : Row w 1 p 2 c [.slice aA nA cA, .slice aB nB cB]) (hA : Row w 1 aA nA cA xA) (hB : Row w 1 aB nB cB xB)
    (oA : ∀ u ∈ xA, u.oneCell' = true) (oB : ∀ u ∈ xB, u.oneCell' = true) (h0 : 0 < nA + nB) (hn : nA + nB ≤ 1000) :
    Calls Tryz.prog 54 #[.slice p 2 c] w fun e w' => ∃ a c, e = .returned (.slice a (nA + nB) c) ∧ w'.ownsRow w.heap.size 53 1 (.slice a (nA + nB) c) (nA + nB) (xA ++ xB) ∧ Ext w w' := by
  obtain ⟨b, off, _, h2, h3⟩ := h.lie
  obtain rfl := h2 (by simp)
  have c0 : w.cell? ⟨b, off, none⟩ = some (.slice aA nA cA) := by simpa using h3 0 _ rfl
  have c1 := h3 1 _ rfl
  have C0 := Lib.hid c0
  have C1 := Lib.hid c1
  have HA := Lib.hid hA
  have HB := Lib.hid hB
  obtain ⟨N, hN⟩ : ∃ N, nA + nB = N := ⟨_, rfl⟩
  rw [hN] at h0 hn
  have HGR := Lib.hid (grow_any N w h0 hn)
  have hsI : (nA : Int) + (nB : Int) = (N : Int) := by omega
  have hwI : IntKind.i64.wrap ((nA : Int) + (nB : Int)) = (N : Int) := by rw [hsI]; exact IntWalk.i64_in _ (by omega)
  have hA0 : ¬ (nA : Int) < 0 := by omega
  have hS0 : ¬ (N : Int) < 0 := by omega
  have hnA : nA ≤ 1000 := by omega
  have HN := Lib.hid hN
  clear hN
  clear h h2 h3 hA hB c0 c1
  go_enter Tryz.func54, Tryz.ntmps54
  go_wp2_with fail
  go_loopg [3, 11] 2 (fun m y x wr => ((m = 2 ∧ x = .int .i64 0 ∧ y = .int .i64 0) ∨ (m = 1 ∧ x = .int .i64 1 ∧ y = .int .i64 (nA : Int)) ∨ (m = 0 ∧ x = .int .i64 2 ∧ y = .int .i64 (N : Int))) ∧ wr = w)
  case atStart => exact ⟨.inl ⟨rfl, rfl, rfl⟩, rfl⟩
  case round =>
    obtain ⟨hc, rfl⟩ := hrel
    rcases hc with ⟨hm, rfl, rfl⟩ | ⟨hm, rfl, rfl⟩ | ⟨hm, rfl, rfl⟩
    · have HM := Lib.hid hm
      have c0 := C0.out
      clear hm
      go_wp2_with fail
      go_roundg 1
      case measure => have := HM.out; omega
      case rel => exact ⟨.inr (.inl ⟨rfl, rfl, by go_num⟩), rfl⟩
    · have HM := Lib.hid hm
      have c1 := C1.out
      clear hm
      go_wp2_with fail
      go_roundg 0
      case measure => have := HM.out; omega
      case rel => exact ⟨.inr (.inr ⟨rfl, rfl, by go_num⟩), rfl⟩
    · clear hm
      obtain ⟨wr0, rfl⟩ : ∃ wr0 : World, wr0 = wr := ⟨_, rfl⟩
      go_wp2_with fail
      refine HGR.out.mono ?_
      rintro e w1 ⟨cg, rfl, hcg, hown, hE1⟩
      have HO := Lib.hid hown
      have HE1 := Lib.hid hE1
      clear hown hE1 HGR hcg
      go_wp2_with fail
      go_loopg [6, 27] 2 (fun m y x wr => ∃ (a : Option Addr) (n cc : Nat) (xs : List Value), y = .slice a n cc ∧ wr.ownsRow wr0.heap.size 53 1 (.slice a n cc) n xs ∧ Ext wr0 wr ∧
        ((m = 2 ∧ x = .int .i64 0 ∧ n = 0 ∧ xs = []) ∨ (m = 1 ∧ x = .int .i64 1 ∧ n = nA ∧ xs = xA) ∨ (m = 0 ∧ x = .int .i64 2 ∧ n = nA + nB ∧ xs = xA ++ xB)))
      case atStart => exact ⟨_, _, _, _, rfl, HO.out, HE1.out, .inl ⟨rfl, rfl, rfl, rfl⟩⟩
      case round =>
        obtain ⟨a, n, cc, xs, rfl, ho, hE, hc⟩ := hrel
        have HE := Lib.hid hE
        have HOX := Lib.hid ho
        rcases hc with ⟨hm, rfl, rfl, rfl⟩ | ⟨hm, rfl, rfl, rfl⟩ | ⟨hm, rfl, rfl, rfl⟩
        · have HM := Lib.hid hm
          have c0 := cell_later hE C0.out
          clear hm hE
          go_wp2_with (at_builtin; go_must (refine wpl_append rfl rfl Tryz.slBoolss wr0.heap.size rfl ho rfl (HA.out.ext HE.out) oA (by unfold maxLen; omega) (by omega) HE.out.size ?_))
          intro v3 w3 hown3 hg3 hb3 _
          have HE3 := Lib.hid (Below.grown HE.out hg3 HE.out.size (fun b hb => (HOX.out.lt b hb).1))
          obtain ⟨a3, c3, rfl, _⟩ := hown3.row
          have HO3 := Lib.hid hown3
          clear hown3 hg3 hb3 ho
          go_wp2_with fail
          go_roundg 1
          case measure => have := HM.out; omega
          case rel => exact ⟨a3, _, c3, _, rfl, HO3.out, HE3.out, .inr (.inl ⟨rfl, rfl, by omega, by simp⟩)⟩
        · have HM := Lib.hid hm
          have c1 := cell_later hE C1.out
          clear hm hE
          go_wp2_with (at_builtin; go_must (refine wpl_append rfl rfl Tryz.slBoolss wr0.heap.size rfl ho rfl (HB.out.ext HE.out) oB (by have := HN.out; unfold maxLen; omega) (by have := HN.out; omega) HE.out.size ?_))
          intro v3 w3 hown3 hg3 hb3 _
          have HE3 := Lib.hid (Below.grown HE.out hg3 HE.out.size (fun b hb => (HOX.out.lt b hb).1))
          obtain ⟨a3, c3, rfl, _⟩ := hown3.row
          have HO3 := Lib.hid hown3
          clear hown3 hg3 hb3 ho
          go_wp2_with fail
          go_roundg 0
          case measure => have := HM.out; omega
          case rel => exact ⟨a3, _, c3, _, rfl, HO3.out, HE3.out, .inr (.inr ⟨rfl, rfl, rfl, rfl⟩)⟩
        · clear hm hE ho
          go_wp2
          go_ret
          exact ⟨_, _, rfl, HOX.out, HE.out⟩
end Go.Proofs.YtciihiiacbnimaaGreatDoor

namespace Go.Proofs.YtciihiiacbnimaaGreatDoor
open Go.RowKit
def EachB (w : World) (vs : List Value) (ll : List (List Bool)) : Prop :=
  vs.length = ll.length ∧ ∀ (i : Nat) (x : Value) (l : List Bool), vs[i]? = some x → ll[i]? = some l → Bools w x l
def BLists (w : World) (v : Value) (ll : List (List Bool)) : Prop := ∃ vs, EachB w vs ll ∧ Reads w 1 v ll.length vs
theorem bools_ext {w w' : World} {v : Value} {l : List Bool} (h : Bools w v l) (hb : Ext w w') : Bools w' v l := Reads.ext h hb
theorem EachB.ext {w w' : World} {vs : List Value} {ll : List (List Bool)} (h : EachB w vs ll) (hb : Ext w w') : EachB w' vs ll := ⟨h.1, fun i x l hx hl => bools_ext (h.2 i x l hx hl) hb⟩
theorem BLists.ext {w w' : World} {v : Value} {ll : List (List Bool)} (h : BLists w v ll) (hb : Ext w w') : BLists w' v ll := by
  obtain ⟨vs, h1, h2⟩ := h
  exact ⟨vs, h1.ext hb, h2.ext hb⟩
theorem EachB.one {w : World} {vs : List Value} {ll : List (List Bool)} (h : EachB w vs ll) : ∀ u ∈ vs, u.oneCell' = true := by
  intro u hu
  obtain ⟨i, hi, rfl⟩ := List.mem_iff_getElem.1 hu
  have hl : i < ll.length := by rw [← h.1]; exact hi
  obtain ⟨a, c, e, _⟩ := h.2 i _ _ (List.getElem?_eq_getElem hi) (List.getElem?_eq_getElem hl)
  rw [e]; rfl
theorem EachB.app {w : World} {vs us : List Value} {ll mm : List (List Bool)} (h : EachB w vs ll) (k : EachB w us mm) : EachB w (vs ++ us) (ll ++ mm) := by
  refine ⟨by simp [h.1, k.1], fun i x l hx hl => ?_⟩
  by_cases hi : i < vs.length
  · rw [List.getElem?_append_left hi] at hx
    rw [List.getElem?_append_left (by rw [← h.1]; exact hi)] at hl
    exact h.2 i x l hx hl
  · rw [List.getElem?_append_right (by omega)] at hx
    rw [List.getElem?_append_right (by rw [← h.1]; omega), ← h.1] at hl
    exact k.2 _ x l hx hl
set_option maxRecDepth 100000 in
set_option maxHeartbeats 400000 in
theorem wcheck_ok (sv lv : Value) (S Lp : List (List Bool)) (props : Nat) (w : World) (hS : BLists w sv S) (hL : BLists w lv Lp) (h1 : S.length ≤ 12) (h2 : 1 ≤ Lp.length) (h3 : Lp.length ≤ 12) (h4 : ∀ l ∈ S ++ Lp, l.length = props) (h5 : props ≤ 6) :
    Calls Tryz.prog 53 #[.agg #[sv, lv], .int .i64 (props : Int)] w fun e w' => e = .returned (.int .i64 0) ∧ Ext w w' := by
  obtain ⟨vs, hE1, aS, cS, rfl, hr1⟩ := hS
  obtain ⟨us, hE2, aL, cL, rfl, hr2⟩ := hL
  have HX := Lib.hid (hE1.app hE2)
  have hA := ext_al (Ext.refl w) (Obj.cells #[.slice aS S.length cS, .slice aL Lp.length cL] 52)
  have hB := ext_al hA (Obj.cells #[.slice aS S.length cS, .slice aL Lp.length cL] 50)
  have hrow : Row ((w.alloc (Obj.cells #[.slice aS S.length cS, .slice aL Lp.length cL] 52)).alloc (Obj.cells #[.slice aS S.length cS, .slice aL Lp.length cL] 50)) 1 (some ⟨w.heap.size + 1, 0, none⟩) 2 2 [.slice aS S.length cS, .slice aL Lp.length cL] := by
    have h := Row.new (w.alloc (Obj.cells #[.slice aS S.length cS, .slice aL Lp.length cL] 52)) 50 [.slice aS S.length cS, .slice aL Lp.length cL] (by simp [maxLen])
    rw [show (w.alloc (Obj.cells #[.slice aS S.length cS, .slice aL Lp.length cL] 52)).heap.size = w.heap.size + 1 by simp] at h
    exact h
  have HCC := Lib.hid (concat_two ((w.alloc (Obj.cells #[.slice aS S.length cS, .slice aL Lp.length cL] 52)).alloc (Obj.cells #[.slice aS S.length cS, .slice aL Lp.length cL] 50)) (some ⟨w.heap.size + 1, 0, none⟩) aS aL 2 S.length cS Lp.length cL vs us hrow (hr1.ext hB) (hr2.ext hB) hE1.one hE2.one (by omega) (by omega))
  have HB := Lib.hid hB
  have H4 := Lib.hid h4
  have hp6 : ¬ (6 : Int) < (props : Int) := by omega
  have hp0 : ¬ (props : Int) < 0 := by omega
  have hs12 : ¬ (12 : Int) < (S.length : Int) := by omega
  have hl1 : ¬ (Lp.length : Int) < 1 := by omega
  have hl12 : ¬ (12 : Int) < (Lp.length : Int) := by omega
  clear hE1 hE2 hr1 hr2 hA hB hrow h4
  go_enter Tryz.func53, Tryz.ntmps53
  go_wp2_with fail
  refine HCC.out.mono ?_
  rintro e w1 ⟨ac, cc, rfl, hown, hE1⟩
  obtain ⟨_, _, e, hrow⟩ := hown.row
  simp only [Value.slice.injEq] at e
  obtain ⟨rfl, _, rfl⟩ := e
  have HR := Lib.hid hrow
  have HE1 := Lib.hid (HB.out.trans hE1)
  clear hown hrow hE1 HCC
  go_wp2_with fail
  go_loopg [36] (S.length + Lp.length) (fun m x wr => ∃ i : Nat, m + i = S.length + Lp.length ∧ x = .int .i64 (i : Int) ∧ wr = w1)
  case atStart => exact ⟨0, by omega, by go_num, rfl⟩
  case round =>
    obtain ⟨i, hmi, rfl, rfl⟩ := hrel
    have HMI := Lib.hid hmi
    by_cases hi : i < S.length + Lp.length
    · obtain ⟨b, off, _, k2, k3⟩ := HR.out.lie
      have hvl : (vs ++ us).length = (S ++ Lp).length := HX.out.1
      have hil : i < (vs ++ us).length := by rw [hvl, List.length_append]; exact hi
      have hil2 : i < (S ++ Lp).length := by rw [← hvl]; exact hil
      obtain rfl := k2 (by omega)
      have ck := k3 i _ (List.getElem?_eq_getElem hil)
      obtain ⟨a, c, e, -⟩ := HX.out.2 i _ _ (List.getElem?_eq_getElem hil) (List.getElem?_eq_getElem hil2)
      rw [e, H4.out _ (List.getElem_mem hil2)] at ck
      have hiI : (i : Int) < (S.length : Int) + (Lp.length : Int) := by omega
      have hi0 : (0 : Int) ≤ (i : Int) := by omega
      clear k2 k3 hvl hil hil2 e hmi
      go_wp2_with fail
      go_roundg (gk - 1)
      case measure => have := HMI.out; omega
      case rel => exact ⟨i + 1, by have := HMI.out; omega, by go_num, rfl⟩
    · have hiI : ¬ (i : Int) < (S.length : Int) + (Lp.length : Int) := by omega
      clear hmi
      go_wp2
      go_ret
      exact ⟨rfl, HE1.out⟩
end Go.Proofs.YtciihiiacbnimaaGreatDoor

namespace Go.Proofs.YtciihiiacbnimaaGreatDoor
open Go.RowKit
def EachX {α : Type} (E : World → Value → List α → Prop) (w : World) (vs : List Value) (ll : List (List α)) : Prop :=
  vs.length = ll.length ∧ ∀ (i : Nat) (x : Value) (l : List α), vs[i]? = some x → ll[i]? = some l → E w x l
theorem EachX.snoc {α : Type} {E : World → Value → List α → Prop} {w : World} {vs : List Value} {ll : List (List α)} {v : Value} {l : List α} (h : EachX E w vs ll) (hv : E w v l) : EachX E w (vs ++ [v]) (ll ++ [l]) := by
  refine ⟨by simp [h.1], fun i y m hy hm => ?_⟩
  by_cases hi : i < vs.length
  · rw [List.getElem?_append_left hi] at hy
    rw [List.getElem?_append_left (by rw [← h.1]; exact hi)] at hm
    exact h.2 i y m hy hm
  · rw [List.getElem?_append_right (by omega)] at hy
    rw [List.getElem?_append_right (by rw [← h.1]; omega)] at hm
    have e : i - vs.length = 0 := by have := (List.getElem?_eq_some_iff.1 hy).1; simp at this; omega
    rw [e] at hy
    rw [← h.1, e] at hm
    simp at hy hm
    subst hy; subst hm; exact hv
structure GL {α : Type} (E : World → Value → List α → Prop) (T : TypeId) (W0 w : World) (B : Nat) (τ : Nat → Nat) (v : Value) (n : Nat) (vs : List Value) (ll : List (List α)) : Prop where
  ext : Ext W0 w
  own : OwnT τ 1 w B T 1 v n vs
  ent : Ent τ 2 w fun x => EachX E x vs ll
  lo : W0.heap.size ≤ B
  hi : B ≤ w.heap.size
  len : n = ll.length
theorem GL.start {α : Type} {E : World → Value → List α → Prop} {T : TypeId} {W0 w : World} {B : Nat} (hE : Ext W0 w) (h1 : W0.heap.size ≤ B) (h2 : B ≤ w.heap.size) : GL E T W0 w B (fun _ => 0) (.slice none 0 0) 0 [] [] :=
  ⟨hE, OwnT.nil _ _ _ _ _ _, fun x _ _ => ⟨rfl, fun i x l h => by simp at h⟩, h1, h2, rfl⟩
theorem GL.step {α : Type} {E : World → Value → List α → Prop} {T : TypeId} {W0 w w1 w3 : World} {B : Nat} {τ : Nat → Nat} {v v' : Value} {n : Nat} {vs : List Value} {ll : List (List α)} (h : GL E T W0 w B τ v n vs ll) (hE : Ext w w1) {l : List α} {x : Value} (hL : ∀ τ' : Nat → Nat, (∀ b, w.heap.size ≤ b → τ' b = 2) → Ent τ' 2 w1 fun y => E y x l) (o : Obj)
    (hown : w3.ownsRow B T 1 v' (n + 1) (vs ++ [x])) (hg : (w1.alloc o).grownBy w3 v.ownBlock) (hb : v'.ownBlock = v.ownBlock ∨ v'.ownBlock = some (w1.heap.size + 1)) :
    ∃ τ', GL E T W0 w3 B τ' v' (n + 1) (vs ++ [x]) (ll ++ [l]) := by
  have hx := ext_al (Ext.refl w1) o
  have e1 : Ent (tagAt τ w.heap.size 2) 2 w1 fun y => EachX E y (vs ++ [x]) (ll ++ [l]) := Ent.both (Ent.ext (h.ent.tag fun b hb => tagAt_lt hb) hE) (hL _ fun b hb => tagAt_ge hb) fun y p q => p.snoc q
  have o1 : OwnT (tagAt τ w.heap.size 2) 1 (w1.alloc o) B T 1 v n vs := (h.own.keep 2).ext (hE.trans hx)
  have e2 := (e1.ext hx).app o1 hg (by omega)
  have o2 := o1.app hown (by rw [show (w1.alloc o).heap.size = w1.heap.size + 1 by simp]; exact hb)
  have e3 : Ext W0 w3 := Below.grown ((h.ext.trans hE).trans hx) hg ((h.ext.trans hE).trans hx).size fun b hb => by
    have := (h.own.own.lt b hb).1
    have := h.lo
    omega
  refine ⟨_, e3, o2, e2, h.lo, ?_, by simp [h.len]⟩
  have h1 := h.hi
  have h2 := hE.size
  have h3 := hg.size
  have h4 : (w1.alloc o).heap.size = w1.heap.size + 1 := by simp
  omega
theorem GL.done {α : Type} {E : World → Value → List α → Prop} {T : TypeId} {W0 w : World} {B : Nat} {τ : Nat → Nat} {v : Value} {n : Nat} {vs : List Value} {ll : List (List α)} (h : GL E T W0 w B τ v n vs ll) : ∃ vs, EachX E w vs ll ∧ Reads w 1 v ll.length vs :=
  ⟨vs, h.ent.now, by rw [← h.len]; exact h.own.own.reads⟩
theorem own_bools_ent {w : World} {k : Nat} {x : Value} {l : List Bool} (h : w.ownsRow k 4 1 x l.length (l.map .bool)) (τ' : Nat → Nat) (ht : ∀ b, k ≤ b → τ' b = 2) : Ent τ' 2 w fun y => Bools y x l :=
  (OwnT.ent ⟨h, fun b hb => ht b (h.lt b hb).1⟩).mono fun _ h => h.reads
end Go.Proofs.YtciihiiacbnimaaGreatDoor

namespace Go.Proofs.YtciihiiacbnimaaGreatDoor
open Go.RowKit
set_option maxRecDepth 100000 in
theorem behind_any (w : World) (T : Nat) (fv ev rv : Value) (al : Option Addr) (n cl back i : Nat) (h : w.heap[T]? = some (.cells #[fv, ev, .slice al n cl, .int .i64 (back : Int), rv] 89 (0, 0))) (hi : i ≤ 1000) :
    Calls Tryz.prog 90 #[.pointer (some ⟨T, 0, none⟩), .int .i64 (i : Int)] w fun e w' => e = .returned (.int .i64 (nxt n back i : Int)) ∧ w = w' := by
  have c2 := blk_cell h (i := 2) rfl
  have c3 := blk_cell h (i := 3) rfl
  clear h
  by_cases hlt : i + 1 < n
  · have hn : nxt n back i = i + 1 := by unfold nxt; rw [if_pos hlt]
    have hI : (i : Int) + 1 < (n : Int) := by omega
    rw [hn]
    clear hn
    go_enter Tryz.func90, Tryz.ntmps90
    go_wp2
    go_ret
    exact ⟨by go_num, rfl⟩
  · have hn : nxt n back i = back := by unfold nxt; rw [if_neg hlt]
    have hI : ¬ (i : Int) + 1 < (n : Int) := by omega
    rw [hn]
    clear hn
    go_enter Tryz.func90, Tryz.ntmps90
    go_wp2
    go_ret
    exact ⟨rfl, rfl⟩
section
variable (w : World) (A R n i : Nat) (b later : Bool) (hA : w.heap[A]? = some (.cells #[.slice (some ⟨R, 0, none⟩) n n] 53 (0, 0))) (hc : w.cell? ⟨R, i, none⟩ = some (.bool b)) (hi : i < n)
include hA hc hi
set_option maxRecDepth 100000 in
theorem law_fin : Calls Tryz.prog 86 #[.int .i64 (i : Int), .bool later, .pointer (some ⟨A, 0, none⟩)] w fun e w' => e = .returned (.bool (b || later)) ∧ w = w' := by
  have c0 := blk_cell hA (i := 0) rfl
  have hI : (i : Int) < (n : Int) := by omega
  have h0 : (0 : Int) ≤ (i : Int) := by omega
  clear hA
  cases b <;> cases later
  all_goals
    go_enter Tryz.func86, Tryz.ntmps86
    go_wp2
    go_ret
    exact ⟨rfl, rfl⟩
set_option maxRecDepth 100000 in
theorem law_glo : Calls Tryz.prog 87 #[.int .i64 (i : Int), .bool later, .pointer (some ⟨A, 0, none⟩)] w fun e w' => e = .returned (.bool (b && later)) ∧ w = w' := by
  have c0 := blk_cell hA (i := 0) rfl
  have hI : (i : Int) < (n : Int) := by omega
  have h0 : (0 : Int) ≤ (i : Int) := by omega
  clear hA
  cases b <;> cases later
  all_goals
    go_enter Tryz.func87, Tryz.ntmps87
    go_wp2
    go_ret
    exact ⟨rfl, rfl⟩
variable (B S : Nat) (d : Bool) (hB : w.heap[B]? = some (.cells #[.slice (some ⟨S, 0, none⟩) n n] 53 (0, 0))) (hd : w.cell? ⟨S, i, none⟩ = some (.bool d))
include hB hd
set_option maxRecDepth 100000 in
theorem law_unt : Calls Tryz.prog 88 #[.int .i64 (i : Int), .bool later, .pointer (some ⟨B, 0, none⟩), .pointer (some ⟨A, 0, none⟩)] w fun e w' => e = .returned (.bool (d || (b && later))) ∧ w = w' := by
  have c0 := blk_cell hA (i := 0) rfl
  have c1 := blk_cell hB (i := 0) rfl
  have hI : (i : Int) < (n : Int) := by omega
  have h0 : (0 : Int) ≤ (i : Int) := by omega
  clear hA hB
  cases d <;> cases b <;> cases later
  all_goals
    go_enter Tryz.func88, Tryz.ntmps88
    go_wp2
    go_ret
    exact ⟨rfl, rfl⟩
set_option maxRecDepth 100000 in
theorem law_rel : Calls Tryz.prog 89 #[.int .i64 (i : Int), .bool later, .pointer (some ⟨B, 0, none⟩), .pointer (some ⟨A, 0, none⟩)] w fun e w' => e = .returned (.bool (d && (b || later))) ∧ w = w' := by
  have c0 := blk_cell hA (i := 0) rfl
  have c1 := blk_cell hB (i := 0) rfl
  have hI : (i : Int) < (n : Int) := by omega
  have h0 : (0 : Int) ≤ (i : Int) := by omega
  clear hA hB
  cases d <;> cases b <;> cases later
  all_goals
    go_enter Tryz.func89, Tryz.ntmps89
    go_wp2
    go_ret
    exact ⟨rfl, rfl⟩
end
end Go.Proofs.YtciihiiacbnimaaGreatDoor
