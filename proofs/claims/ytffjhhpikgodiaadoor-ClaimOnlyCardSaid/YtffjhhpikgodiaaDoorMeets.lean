/- The contract of logic.Meets. -/
import Derived.Test.YtffjhhpikgodiaaDoorTruA
namespace Go.Proofs.YtffjhhpikgodiaaDoor
open Go.RowKit

/-- Does an op that looks ahead have what it waits for? -/
def metB (k : Int) (es : List Int) (tv : List Bool) (i : Nat) : Bool :=
  if k = 17 then !tv.getD i false || tv.getD (i + 1) false
  else if k = 18 then tv.getD i false || !tv.getD (i + 1) false
  else if k = 15 then !tv.getD i false || tv.getD (secAt es i) false
  else if k = 16 then tv.getD i false || !tv.getD (secAt es i) false
  else true

/-- Which of the first ops that look ahead have it, as bits. -/
def meUp (l : List Op2) (es : List Int) (tv : List Bool) : Nat → Nat
  | 0 => 0
  | i + 1 => if aheadB (l.getD i (0, 0)).1 && metB (l.getD i (0, 0)).1 es tv i then meUp l es tv i ||| 2 ^ cntA (l.take i) else meUp l es tv i

theorem meUp_lt (l : List Op2) (es : List Int) (tv : List Bool) : ∀ i, i ≤ l.length → meUp l es tv i < 2 ^ cntA (l.take i)
  | 0, _ => Nat.two_pow_pos _
  | i + 1, h => by
    have ih := meUp_lt l es tv i (by omega)
    have hc := cntA_take l (show i < l.length by omega)
    have hg : l.getD i (0, 0) = l[i]'(by omega) := by simp [List.getD, List.getElem?_eq_getElem (show i < l.length by omega)]
    unfold meUp
    rw [hg, hc]
    split
    · rename_i e
      simp only [Bool.and_eq_true] at e
      rw [if_pos e.1]
      exact Nat.or_lt_two_pow (Nat.lt_of_lt_of_le ih (Nat.pow_le_pow_right (by omega) (by omega))) (Nat.pow_lt_pow_right (by omega) (by omega))
    · exact Nat.lt_of_lt_of_le ih (Nat.pow_le_pow_right (by omega) (by omega))

set_option maxRecDepth 100000 in
set_option maxHeartbeats 8000000 in
theorem meets_any (v : Value) (l : List Op2) (t : Tm) (vl : Value) (L : List Bool) (c : Nat) (w : World) (h : Ops w v l) (ht : Tab w) (hf : IsF l (L.length : Int) t) (hL : Bools w vl L) (hc : c < 2 ^ cntA l) :
    Calls Tryd.prog 22 #[v, vl, .int .i64 (c : Int)] w fun e w' => e = .returned (.tuple #[.int .i64 (meUp l (t.ends 0) (tvT L c t 0) l.length : Int), .int .i64 0]) ∧ Ext w w' := by
  have hen := ends_term t hf.ok hf.small
  rw [hf.flat] at hen
  have HTR := Lib.hid (truths_any v l t vl L c w h ht hf hL hc)
  have HEN := Lib.hid fun wx (hx : Ext w wx) => by have H := ends_any v l wx (h.ext hx) (ht.ext hx); rw [hen] at H; exact H
  have hl60 : l.length ≤ 60 := by rw [← hf.flat, Tm.flat_len]; exact hf.small
  have hpos : 0 < l.length := by rw [← hf.flat, Tm.flat_len]; exact t.size_pos
  have htl : (tvT L c t 0).length = l.length := by rw [tvT_len, ← Tm.flat_len, hf.flat]
  have hel : (t.ends 0).length = l.length := by rw [Tm.ends_len, ← Tm.flat_len, hf.flat]
  have HTV := Lib.hid fun i k v (hi : l[i]? = some (k, v)) => by have := tv_at L c t hf.ok i k v (by rw [hf.flat]; exact hi); rw [hf.flat] at this; exact this
  obtain ⟨a, cap, rfl, hr⟩ := h
  obtain ⟨al, cl, rfl, hrl⟩ := hL
  have HR := Lib.hid hr
  have HF := Lib.hid hf
  have hc6 := hf.cnt
  generalize t.ends 0 = es at *
  generalize tvT L c t 0 = tv at *
  have HTL := Lib.hid htl
  have HEL := Lib.hid hel
  clear hen hf hr hrl ht htl hel hc
  go_enter Tryd.func22, Tryd.ntmps22
  go_wp2_with fail
  refine HTR.out.mono ?_
  rintro e w1 ⟨D, rfl, hot, hE1⟩
  have HOT := Lib.hid hot
  have HE1 := Lib.hid hE1
  clear hot hE1 HTR
  go_wp2_with fail
  refine (HEN.out _ HE1.out).mono ?_
  rintro e w2 ⟨hE2, v2, rfl, hown2⟩
  obtain ⟨ae, ce, rfl, hre⟩ := hown2.row
  have HRE := Lib.hid hre
  have HE2 := Lib.hid (HE1.out.trans hE2)
  have HOT2 := Lib.hid (own_ext HOT.out hE2)
  clear hown2 hre hE2 HEN HE1 HOT
  go_wp2_with fail
  go_loopg [12, 13, 34] l.length (fun m y z x wr => ∃ i : Nat, m + i = l.length ∧ x = .int .i64 (i : Int) ∧ y = .int .i64 (meUp l es tv i : Int) ∧ z = .int .i64 (cntA (l.take i) : Int) ∧ Ext w2 wr)
  case atStart => exact ⟨0, by omega, by go_num, rfl, by simp [cntA], Ext.refl _⟩
  case round =>
    obtain ⟨i, hmi, rfl, rfl, rfl, hE⟩ := hrel
    have HMI := Lib.hid hmi
    have HE := Lib.hid hE
    by_cases hi : i < l.length
    · obtain ⟨b, off, hb, hcc⟩ := (HR.out.ext (HE2.out.trans hE)).ops
      obtain rfl := hb hpos
      obtain ⟨k1, k2⟩ := hcc i hi
      have hg : l.getD i (0, 0) = l[i] := by simp [List.getD, List.getElem?_eq_getElem hi]
      have hmu : meUp l es tv (i + 1) = if aheadB l[i].1 && metB l[i].1 es tv i then meUp l es tv i ||| 2 ^ cntA (l.take i) else meUp l es tv i := by rw [meUp, hg]
      have hcn := cntA_take l hi
      have hlt := meUp_lt l es tv i (by omega)
      have hle := cntA_take_le l i
      have hp6 : 2 ^ cntA (l.take i) ≤ 2 ^ 6 := Nat.pow_le_pow_right (by omega) (by omega)
      have htva := HTV.out i l[i].1 l[i].2 (List.getElem?_eq_getElem hi)
      obtain ⟨hf1, hf2, -, -⟩ := HF.out.fit l[i] (by simp)
      have hor := i64_or_nat (meUp l es tv i) (2 ^ cntA (l.take i)) (by omega) (by omega)
      have hpe : ((2 ^ cntA (l.take i) : Nat) : Int) = (2 : Int) ^ cntA (l.take i) := by push_cast; rfl
      have hw0 : IntKind.i64.wrap ((2 : Int) ^ cntA (l.take i)) = ((2 ^ cntA (l.take i) : Nat) : Int) := by rw [← hpe]; exact IntWalk.i64_in _ (by omega)
      have HAF := Lib.hid fun wx => ah_fn l[i].1 wx
      have HMU := Lib.hid hmu
      have HCN := Lib.hid hcn
      have HTA := Lib.hid htva
      have hiI : (i : Int) < (l.length : Int) := by omega
      have hi0 : (0 : Int) ≤ (i : Int) := by omega
      have hti : tv[i]? = some (tv.getD i false) := getD_some (by rw [HTL.out]; exact hi)
      have cT := own_bool (own_ext HOT2.out hE) hti
      have HOTR := Lib.hid (own_ext HOT2.out hE)
      have HRER := Lib.hid (HRE.out.ext hE)
      clear hcc hb hmu hcn htva hlt hp6 hpe hti hE hmi hg
      generalize meUp l es tv i = me at *
      generalize hme1 : meUp l es tv (i + 1) = me1 at *
      have HME1 := Lib.hid hme1
      clear hme1
      generalize hc0 : cntA (l.take i) = cn at *
      generalize 2 ^ cn = pc at *
      have HDW := Lib.hid fun (o : Op2) (x : Addr) (y : Value) (hc : wr.cell? x = some y) => cell_later (ext_al (Ext.refl wr) (Obj.cells #[.int .i64 o.1, .int .i64 o.2] 51)) hc
      replace cT := HDW.out l[i] _ _ cT
      generalize l[i] = o at *
      obtain ⟨k, u⟩ := o
      simp only at k1 k2 hf1 hf2 HAF HMU HCN HTA
      have hx := ext_al HE.out (Obj.cells #[.int .i64 k, .int .i64 u] 51)
      have HX := Lib.hid hx
      clear hx
      go_wp2_with fail
      refine (HAF.out _).mono ?_
      rintro e wq ⟨rfl, rfl⟩
      cases hah : aheadB k
      · have hmu := HMU.out
        have hcn := HCN.out
        rw [hah] at hmu hcn
        have HM2 := Lib.hid (show me1 = me by simpa using hmu)
        have HC2 := Lib.hid (show cntA (l.take (i + 1)) = cn by simpa using hcn)
        clear hmu hcn hah
        go_wp2_with fail
        go_roundg (gk - 1)
        case measure => have := HMI.out; omega
        case rel => exact ⟨i + 1, by have := HMI.out; omega, by go_num, by rw [HME1.out, HM2.out], by rw [HC2.out], HX.out⟩
      · have hmu := HMU.out
        have hcn := HCN.out
        rw [hah] at hmu hcn
        have HC2 := Lib.hid (show cntA (l.take (i + 1)) = cn + 1 by simpa using hcn)
        have hk14 : 14 ≤ k := by have := hah; unfold aheadB at this; simp only [decide_eq_true_eq] at this; exact this.1
        have hcn6 : cn ≤ 6 := by omega
        obtain ⟨b, hb⟩ : ∃ b, tv.getD i false = b := ⟨_, rfl⟩
        rw [hb] at cT
        clear hcn
        rcases (show k = 14 ∨ k = 15 ∨ k = 16 ∨ k = 17 ∨ k = 18 by omega) with rfl | rfl | rfl | rfl | rfl
        · -- Next
          have HM2 := Lib.hid (show me1 = me ||| pc by simpa [metB] using hmu)
          clear hmu hah
          go_wp2_with fail
          go_roundg (gk - 1)
          case measure => have := HMI.out; omega
          case rel => exact ⟨i + 1, by have := HMI.out; omega, by go_num, by rw [HME1.out, HM2.out], by rw [HC2.out]; go_num, HX.out⟩
        · -- 15
          obtain ⟨ht1, ht2, ht3⟩ := HTA.out.two rfl
          obtain ⟨s, hs⟩ : ∃ s, secAt es i = s := ⟨_, rfl⟩
          rw [hs] at ht1 ht2 ht3
          obtain ⟨b2, hb2⟩ : ∃ b, tv.getD s false = b := ⟨_, rfl⟩
          have hm : metB 15 es tv i = (!b || b2) := by rw [metB, if_neg (by decide), if_neg (by decide), if_pos rfl, hb, hs, hb2]
          rw [hm] at hmu
          have hts := getD_some (l := tv) (i := s) (by rw [HTL.out]; exact ht3)
          rw [hb2] at hts
          have cT2 := HDW.out (15, u) _ _ (own_bool HOTR.out hts)
          obtain ⟨be, oe, he1, he2⟩ := row_ints HRER.out
          obtain rfl := he1 (by rw [HEL.out]; exact hpos)
          have cE := HDW.out (15, u) _ _ (he2 _ _ ht1)
          have hsI : (s : Int) < (l.length : Int) := by omega
          have hs0 : (0 : Int) ≤ (s : Int) := by omega
          have hiE : (i : Int) + 1 < (es.length : Int) := by have := HEL.out; omega
          have hi10 : (0 : Int) ≤ (i : Int) + 1 := by omega
          have hit : ((i : Int) + 1).toNat = i + 1 := by omega
          clear hm hts he1 he2 ht1 ht2 ht3 hs hb hb2 hah
          cases b <;> cases b2
          all_goals
            first
              | have HM2 := Lib.hid (show me1 = me ||| pc from hmu)
              | have HM2 := Lib.hid (show me1 = me from hmu)
            clear hmu
            go_wp2_with fail
            go_roundg (gk - 1)
            case measure => have := HMI.out; omega
            case rel => exact ⟨i + 1, by have := HMI.out; omega, by go_num, by rw [HME1.out, HM2.out], by rw [HC2.out]; go_num, HX.out⟩
        · -- 16
          obtain ⟨ht1, ht2, ht3⟩ := HTA.out.two rfl
          obtain ⟨s, hs⟩ : ∃ s, secAt es i = s := ⟨_, rfl⟩
          rw [hs] at ht1 ht2 ht3
          obtain ⟨b2, hb2⟩ : ∃ b, tv.getD s false = b := ⟨_, rfl⟩
          have hm : metB 16 es tv i = (b || !b2) := by rw [metB, if_neg (by decide), if_neg (by decide), if_neg (by decide), if_pos rfl, hb, hs, hb2]
          rw [hm] at hmu
          have hts := getD_some (l := tv) (i := s) (by rw [HTL.out]; exact ht3)
          rw [hb2] at hts
          have cT2 := HDW.out (16, u) _ _ (own_bool HOTR.out hts)
          obtain ⟨be, oe, he1, he2⟩ := row_ints HRER.out
          obtain rfl := he1 (by rw [HEL.out]; exact hpos)
          have cE := HDW.out (16, u) _ _ (he2 _ _ ht1)
          have hsI : (s : Int) < (l.length : Int) := by omega
          have hs0 : (0 : Int) ≤ (s : Int) := by omega
          have hiE : (i : Int) + 1 < (es.length : Int) := by have := HEL.out; omega
          have hi10 : (0 : Int) ≤ (i : Int) + 1 := by omega
          have hit : ((i : Int) + 1).toNat = i + 1 := by omega
          clear hm hts he1 he2 ht1 ht2 ht3 hs hb hb2 hah
          cases b <;> cases b2
          all_goals
            first
              | have HM2 := Lib.hid (show me1 = me ||| pc from hmu)
              | have HM2 := Lib.hid (show me1 = me from hmu)
            clear hmu
            go_wp2_with fail
            go_roundg (gk - 1)
            case measure => have := HMI.out; omega
            case rel => exact ⟨i + 1, by have := HMI.out; omega, by go_num, by rw [HME1.out, HM2.out], by rw [HC2.out]; go_num, HX.out⟩
        · -- 17
          have hone := HTA.out.one (.inl rfl)
          obtain ⟨b1, hb1⟩ : ∃ b, tv.getD (i + 1) false = b := ⟨_, rfl⟩
          have hm : metB 17 es tv i = (!b || b1) := by rw [metB, if_pos rfl, hb, hb1]
          rw [hm] at hmu
          have hts := getD_some (l := tv) (i := i + 1) (by rw [HTL.out]; exact hone)
          rw [hb1] at hts
          have cT2 := HDW.out (17, u) _ _ (own_bool HOTR.out hts)
          have hiE : (i : Int) + 1 < (l.length : Int) := by omega
          have hi10 : (0 : Int) ≤ (i : Int) + 1 := by omega
          have hit : ((i : Int) + 1).toNat = i + 1 := by omega
          clear hm hts hone hb hb1 hah
          cases b <;> cases b1
          all_goals
            first
              | have HM2 := Lib.hid (show me1 = me ||| pc from hmu)
              | have HM2 := Lib.hid (show me1 = me from hmu)
            clear hmu
            go_wp2_with fail
            go_roundg (gk - 1)
            case measure => have := HMI.out; omega
            case rel => exact ⟨i + 1, by have := HMI.out; omega, by go_num, by rw [HME1.out, HM2.out], by rw [HC2.out]; go_num, HX.out⟩
        · -- 18
          have hone := HTA.out.one (.inl rfl)
          obtain ⟨b1, hb1⟩ : ∃ b, tv.getD (i + 1) false = b := ⟨_, rfl⟩
          have hm : metB 18 es tv i = (b || !b1) := by rw [metB, if_neg (by decide), if_pos rfl, hb, hb1]
          rw [hm] at hmu
          have hts := getD_some (l := tv) (i := i + 1) (by rw [HTL.out]; exact hone)
          rw [hb1] at hts
          have cT2 := HDW.out (18, u) _ _ (own_bool HOTR.out hts)
          have hiE : (i : Int) + 1 < (l.length : Int) := by omega
          have hi10 : (0 : Int) ≤ (i : Int) + 1 := by omega
          have hit : ((i : Int) + 1).toNat = i + 1 := by omega
          clear hm hts hone hb hb1 hah
          cases b <;> cases b1
          all_goals
            first
              | have HM2 := Lib.hid (show me1 = me ||| pc from hmu)
              | have HM2 := Lib.hid (show me1 = me from hmu)
            clear hmu
            go_wp2_with fail
            go_roundg (gk - 1)
            case measure => have := HMI.out; omega
            case rel => exact ⟨i + 1, by have := HMI.out; omega, by go_num, by rw [HME1.out, HM2.out], by rw [HC2.out]; go_num, HX.out⟩
    · obtain rfl : i = l.length := by omega
      have hiI : ¬ (l.length : Int) < (l.length : Int) := by omega
      have HEW := Lib.hid (HE2.out.trans hE)
      clear hE hmi
      generalize hml : meUp l es tv l.length = me at *
      have HML := Lib.hid hml
      clear hml
      go_wp2
      go_ret2
      exact ⟨by rw [HML.out]; rfl, HEW.out⟩

end Go.Proofs.YtffjhhpikgodiaaDoor
