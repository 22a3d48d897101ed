/- Plain: the truths of a formula's terms, by places. No condition. -/
import Derived.Test.YtffjhhpikgodiaaDoorFormP
import Derived.Test.YtffjhhpikgodiaaDoorTermB
namespace Go.Proofs.YtffjhhpikgodiaaDoor

/-- The truths of all terms of a formula, by places, where b ops that look ahead stand in front of it. -/
def tvT (L : List Bool) (c : Nat) : Tm → Nat → List Bool
  | .n0 k v, b => [if aheadB k then c.testBit b else if k = 13 then L.getD v.toNat false else decide (k = 11)]
  | .n1 k _ a, b => (if aheadB k then c.testBit b else !(tvT L c a (b + (if aheadB k then 1 else 0))).headD false) :: tvT L c a (b + (if aheadB k then 1 else 0))
  | .n2 k _ x y, b =>
    (if aheadB k then c.testBit b
      else if k = 8 then (tvT L c x (b + (if aheadB k then 1 else 0))).headD false && (tvT L c y (b + (if aheadB k then 1 else 0) + cntA x.flat)).headD false
      else (tvT L c x (b + (if aheadB k then 1 else 0))).headD false || (tvT L c y (b + (if aheadB k then 1 else 0) + cntA x.flat)).headD false) ::
      (tvT L c x (b + (if aheadB k then 1 else 0)) ++ tvT L c y (b + (if aheadB k then 1 else 0) + cntA x.flat))

theorem tvT_len (L : List Bool) (c : Nat) (t : Tm) : ∀ b, (tvT L c t b).length = t.size := by
  induction t with
  | n0 => intro b; rfl
  | n1 k v a ih => intro b; simp [tvT, Tm.size, ih]
  | n2 k v x y ih1 ih2 => intro b; simp [tvT, Tm.size, ih1, ih2]

/-- The place of an op's second part: where its first part ends. -/
def secAt (es : List Int) (i : Nat) : Nat := (es.getD (i + 1) 0).toNat

/-- What each op makes, out of what its parts make. -/
structure TvAt (L : List Bool) (c : Nat) (l : List Op2) (es : List Int) (tv : List Bool) (i : Nat) (k v : Int) : Prop where
  one : partsOf k = 1 ∨ partsOf k = 2 → i + 1 < l.length
  two : partsOf k = 2 → es[i + 1]? = some (secAt es i : Int) ∧ i + 1 < secAt es i ∧ secAt es i < l.length
  ah : aheadB k = true → tv[i]? = some (c.testBit (cntA (l.take i)))
  prop : k = 13 → tv[i]? = some (L.getD v.toNat false)
  yes : k = 11 → tv[i]? = some true
  no : k = 12 → tv[i]? = some false
  not : k = 10 → tv[i]? = some (!tv.getD (i + 1) false)
  and : k = 8 → tv[i]? = some (tv.getD (i + 1) false && tv.getD (secAt es i) false)
  or : k = 9 → tv[i]? = some (tv.getD (i + 1) false || tv.getD (secAt es i) false)

theorem getD_mid (a b c : List Bool) (h : 0 < b.length) : (a ++ b ++ c).getD a.length false = b.headD false := by
  cases b with
  | nil => simp at h
  | cons x b => simp [List.getD]

theorem tv_law (L : List Bool) (c : Nat) (t : Tm) (ht : t.ok) : ∀ (pre post : List Op2) (ea eb : List Int) (ta tb : List Bool), ea.length = pre.length → ta.length = pre.length →
    ∀ i, i < t.size → ∀ k v, (pre ++ t.flat ++ post)[pre.length + i]? = some (k, v) →
      TvAt L c (pre ++ t.flat ++ post) (ea ++ t.ends pre.length ++ eb) (ta ++ tvT L c t (cntA pre) ++ tb) (pre.length + i) k v := by
  induction t with
  | n0 k0 v0 =>
    intro pre post ea eb ta tb he hta i hi k v hkv
    obtain ⟨h1, h2, h3⟩ := ht
    simp only [Tm.size] at hi
    obtain rfl : i = 0 := by omega
    simp only [Tm.flat, Nat.add_zero] at hkv ⊢
    have hkv' : k0 = k ∧ v0 = v := by simpa using hkv
    obtain ⟨rfl, rfl⟩ := hkv'
    have htv : (ta ++ tvT L c (.n0 k0 v0) (cntA pre) ++ tb)[pre.length]? = some (if aheadB k0 then c.testBit (cntA pre) else if k0 = 13 then L.getD v0.toNat false else decide (k0 = 11)) := by
      rw [← hta]; simp [tvT]
    have hnp : ∀ j : Int, partsOf j ≠ 0 → k0 ≠ j := fun j hj e => by subst e; exact hj h3
    refine ⟨fun h => by omega, fun h => by omega, fun h => ?_, fun h => ?_, fun h => ?_, fun h => ?_, fun h => ?_, fun h => ?_, fun h => ?_⟩
    · rw [htv, if_pos h]; simp
    · subst h; rw [htv]; simp [aheadB]
    · subst h; rw [htv]; simp [aheadB]
    · subst h; rw [htv]; simp [aheadB]
    · exact absurd h (hnp 10 (by decide))
    · exact absurd h (hnp 8 (by decide))
    · exact absurd h (hnp 9 (by decide))
  | n1 k0 v0 a ih =>
    intro pre post ea eb ta tb he hta i hi k v hkv
    obtain ⟨h1, h2, h3, h4⟩ := ht
    have hfl := a.flat_len
    have hel := a.ends_len (pre.length + 1)
    have hsz := a.size_pos
    have htl := tvT_len L c a (cntA (pre ++ [(k0, v0)]))
    have hcn : cntA (pre ++ [(k0, v0)]) = cntA pre + (if aheadB k0 then 1 else 0) := by rw [cntA_app]; simp [cntA]
    have e1 : pre ++ Tm.flat (.n1 k0 v0 a) ++ post = (pre ++ [(k0, v0)]) ++ a.flat ++ post := by simp [Tm.flat]
    have e2 : ea ++ Tm.ends (.n1 k0 v0 a) pre.length ++ eb = (ea ++ [((pre.length + 1 + a.size : Nat) : Int)]) ++ a.ends (pre ++ [(k0, v0)]).length ++ eb := by simp [Tm.ends]
    obtain ⟨h0, hh0⟩ : ∃ x, x = (if aheadB k0 then c.testBit (cntA pre) else !(tvT L c a (cntA (pre ++ [(k0, v0)]))).headD false) := ⟨_, rfl⟩
    have e3 : ta ++ tvT L c (.n1 k0 v0 a) (cntA pre) ++ tb = (ta ++ [h0]) ++ tvT L c a (cntA (pre ++ [(k0, v0)])) ++ tb := by rw [hh0, hcn]; simp [tvT]
    rw [e1] at hkv
    rw [e1, e2, e3]
    by_cases hi0 : i = 0
    · subst hi0
      have hkv' : k0 = k ∧ v0 = v := by simpa using hkv
      obtain ⟨rfl, rfl⟩ := hkv'
      have hat : ((ta ++ [h0]) ++ tvT L c a (cntA (pre ++ [(k0, v0)])) ++ tb)[pre.length + 0]? = some h0 := by rw [Nat.add_zero, ← hta]; simp
      have hnx : ((ta ++ [h0]) ++ tvT L c a (cntA (pre ++ [(k0, v0)])) ++ tb).getD (pre.length + 0 + 1) false = (tvT L c a (cntA (pre ++ [(k0, v0)]))).headD false := by
        have := getD_mid (ta ++ [h0]) (tvT L c a (cntA (pre ++ [(k0, v0)]))) tb (by omega)
        rw [← this]; simp [hta]
      have htk : ((pre ++ [(k0, v0)]) ++ a.flat ++ post).take (pre.length + 0) = pre := by simp
      have hnp : ∀ j : Int, partsOf j ≠ 1 → k0 ≠ j := fun j hj e => by subst e; exact hj h3
      refine ⟨fun h => by simp; omega, fun h => by omega, fun h => ?_, fun h => absurd h (hnp 13 (by decide)), fun h => absurd h (hnp 11 (by decide)), fun h => absurd h (hnp 12 (by decide)), fun h => ?_, fun h => absurd h (hnp 8 (by decide)), fun h => absurd h (hnp 9 (by decide))⟩
      · rw [hat, htk, hh0, if_pos h]
      · rw [hat, hnx, hh0]
        have : aheadB k0 = false := by subst h; decide
        rw [this]; rfl
    · have := ih h4 (pre ++ [(k0, v0)]) post (ea ++ [((pre.length + 1 + a.size : Nat) : Int)]) eb (ta ++ [h0]) tb (by simp [he]) (by simp [hta]) (i - 1) (by simp only [Tm.size] at hi; omega) k v (by
        rw [show (pre ++ [(k0, v0)]).length + (i - 1) = pre.length + i by simp; omega]; exact hkv)
      rw [show (pre ++ [(k0, v0)]).length + (i - 1) = pre.length + i by simp; omega] at this
      exact this
  | n2 k0 v0 x y ih1 ih2 =>
    intro pre post ea eb ta tb he hta i hi k v hkv
    obtain ⟨h1, h2, h3, h4, h5⟩ := ht
    have hfx := x.flat_len
    have hfy := y.flat_len
    have hsx := x.size_pos
    have hsy := y.size_pos
    have hex := x.ends_len (pre.length + 1)
    have hlx := tvT_len L c x (cntA (pre ++ [(k0, v0)]))
    have hly := tvT_len L c y (cntA (pre ++ [(k0, v0)] ++ x.flat))
    have hcx : cntA (pre ++ [(k0, v0)]) = cntA pre + (if aheadB k0 then 1 else 0) := by rw [cntA_app]; simp [cntA]
    have hcy : cntA (pre ++ [(k0, v0)] ++ x.flat) = cntA pre + (if aheadB k0 then 1 else 0) + cntA x.flat := by rw [cntA_app, hcx]
    have e1 : pre ++ Tm.flat (.n2 k0 v0 x y) ++ post = (pre ++ [(k0, v0)]) ++ x.flat ++ (y.flat ++ post) := by simp [Tm.flat]
    have e1' : pre ++ Tm.flat (.n2 k0 v0 x y) ++ post = (pre ++ [(k0, v0)] ++ x.flat) ++ y.flat ++ post := by simp [Tm.flat]
    obtain ⟨E0, hE0⟩ : ∃ e, e = ((pre.length + 1 + x.size + y.size : Nat) : Int) := ⟨_, rfl⟩
    have e2 : ea ++ Tm.ends (.n2 k0 v0 x y) pre.length ++ eb = (ea ++ [E0]) ++ x.ends (pre ++ [(k0, v0)]).length ++ (y.ends (pre.length + 1 + x.size) ++ eb) := by simp [Tm.ends, hE0]
    have e2' : ea ++ Tm.ends (.n2 k0 v0 x y) pre.length ++ eb = (ea ++ [E0] ++ x.ends (pre.length + 1)) ++ y.ends (pre ++ [(k0, v0)] ++ x.flat).length ++ eb := by
      rw [show (pre ++ [(k0, v0)] ++ x.flat).length = pre.length + 1 + x.size by simp [hfx]; omega]
      simp [Tm.ends, hE0]
    obtain ⟨h0, hh0⟩ : ∃ z, z = (if aheadB k0 then c.testBit (cntA pre) else if k0 = 8 then (tvT L c x (cntA (pre ++ [(k0, v0)]))).headD false && (tvT L c y (cntA (pre ++ [(k0, v0)] ++ x.flat))).headD false
      else (tvT L c x (cntA (pre ++ [(k0, v0)]))).headD false || (tvT L c y (cntA (pre ++ [(k0, v0)] ++ x.flat))).headD false) := ⟨_, rfl⟩
    have e3 : ta ++ tvT L c (.n2 k0 v0 x y) (cntA pre) ++ tb = (ta ++ [h0]) ++ tvT L c x (cntA (pre ++ [(k0, v0)])) ++ (tvT L c y (cntA (pre ++ [(k0, v0)] ++ x.flat)) ++ tb) := by rw [hh0, hcx, hcy]; simp [tvT]
    have e3' : ta ++ tvT L c (.n2 k0 v0 x y) (cntA pre) ++ tb = (ta ++ [h0] ++ tvT L c x (cntA (pre ++ [(k0, v0)]))) ++ tvT L c y (cntA (pre ++ [(k0, v0)] ++ x.flat)) ++ tb := by rw [e3]; simp
    by_cases hi0 : i = 0
    · subst hi0
      rw [e1] at hkv
      rw [e1, e2, e3]
      have hkv' : k0 = k ∧ v0 = v := by simpa using hkv
      obtain ⟨rfl, rfl⟩ := hkv'
      have hat : ((ta ++ [h0]) ++ tvT L c x (cntA (pre ++ [(k0, v0)])) ++ (tvT L c y (cntA (pre ++ [(k0, v0)] ++ x.flat)) ++ tb))[pre.length + 0]? = some h0 := by rw [Nat.add_zero, ← hta]; simp
      have hnx : ((ta ++ [h0]) ++ tvT L c x (cntA (pre ++ [(k0, v0)])) ++ (tvT L c y (cntA (pre ++ [(k0, v0)] ++ x.flat)) ++ tb)).getD (pre.length + 0 + 1) false = (tvT L c x (cntA (pre ++ [(k0, v0)]))).headD false := by
        have := getD_mid (ta ++ [h0]) (tvT L c x (cntA (pre ++ [(k0, v0)]))) (tvT L c y (cntA (pre ++ [(k0, v0)] ++ x.flat)) ++ tb) (by omega)
        rw [← this]; simp [hta]
      have hes : ((ea ++ [E0]) ++ x.ends (pre ++ [(k0, v0)]).length ++ (y.ends (pre.length + 1 + x.size) ++ eb))[pre.length + 0 + 1]? = some (((pre.length + 1 + x.size : Nat)) : Int) := by
        have hz := ends_zero x (pre.length + 1) (by rw [hex]; exact hsx)
        have hl2 : (pre ++ [(k0, v0)]).length = pre.length + 1 := by simp
        rw [hl2, List.append_assoc, List.getElem?_append_right (by simp [he]), List.getElem?_append_left (by rw [hex]; simp [he]; exact hsx)]
        rw [show pre.length + 0 + 1 - (ea ++ [E0]).length = 0 by simp [he], List.getElem?_eq_getElem (by rw [hex]; exact hsx), hz]
      have hsec : secAt ((ea ++ [E0]) ++ x.ends (pre ++ [(k0, v0)]).length ++ (y.ends (pre.length + 1 + x.size) ++ eb)) (pre.length + 0) = pre.length + 1 + x.size := by
        unfold secAt
        rw [List.getD, hes]
        show ((pre.length + 1 + x.size : Nat) : Int).toNat = _
        omega
      have hny : ((ta ++ [h0]) ++ tvT L c x (cntA (pre ++ [(k0, v0)])) ++ (tvT L c y (cntA (pre ++ [(k0, v0)] ++ x.flat)) ++ tb)).getD (pre.length + 1 + x.size) false = (tvT L c y (cntA (pre ++ [(k0, v0)] ++ x.flat))).headD false := by
        have := getD_mid (ta ++ [h0] ++ tvT L c x (cntA (pre ++ [(k0, v0)]))) (tvT L c y (cntA (pre ++ [(k0, v0)] ++ x.flat))) tb (by omega)
        rw [← this]
        congr 1
        · simp
        · simp [hta, hlx]; omega
      have htk : ((pre ++ [(k0, v0)]) ++ x.flat ++ (y.flat ++ post)).take (pre.length + 0) = pre := by simp
      have hnp : ∀ j : Int, partsOf j ≠ 2 → k0 ≠ j := fun j hj e => by subst e; exact hj h3
      refine ⟨fun h => by simp; omega, fun h => ?_, fun h => ?_, fun h => absurd h (hnp 13 (by decide)), fun h => absurd h (hnp 11 (by decide)), fun h => absurd h (hnp 12 (by decide)), fun h => absurd h (hnp 10 (by decide)), fun h => ?_, fun h => ?_⟩
      · rw [hsec]
        exact ⟨hes, by omega, by simp; omega⟩
      · rw [hat, htk, hh0, if_pos h]
      · rw [hat, hnx, hsec, hny, hh0]
        have : aheadB k0 = false := by subst h; decide
        rw [this, if_pos h]; rfl
      · rw [hat, hnx, hsec, hny, hh0]
        have : aheadB k0 = false := by subst h; decide
        rw [this, if_neg (show ¬ k0 = 8 by omega)]; rfl
    · by_cases hix : i - 1 < x.size
      · rw [e1] at hkv
        rw [e1, e2, e3]
        have := ih1 h4 (pre ++ [(k0, v0)]) (y.flat ++ post) (ea ++ [E0]) (y.ends (pre.length + 1 + x.size) ++ eb) (ta ++ [h0]) (tvT L c y (cntA (pre ++ [(k0, v0)] ++ x.flat)) ++ tb) (by simp [he]) (by simp [hta]) (i - 1) hix k v (by
          rw [show (pre ++ [(k0, v0)]).length + (i - 1) = pre.length + i by simp; omega]; exact hkv)
        rw [show (pre ++ [(k0, v0)]).length + (i - 1) = pre.length + i by simp; omega] at this
        exact this
      · rw [e1'] at hkv
        rw [e1', e2', e3']
        have hpl : (pre ++ [(k0, v0)] ++ x.flat).length + (i - 1 - x.size) = pre.length + i := by simp [hfx]; omega
        have := ih2 h5 (pre ++ [(k0, v0)] ++ x.flat) post (ea ++ [E0] ++ x.ends (pre.length + 1)) eb (ta ++ [h0] ++ tvT L c x (cntA (pre ++ [(k0, v0)]))) tb (by simp [he, hex, hfx]) (by simp [hta, hlx, hfx]) (i - 1 - x.size) (by simp only [Tm.size] at hi; omega) k v (by rw [hpl]; exact hkv)
        rw [hpl] at this
        exact this

end Go.Proofs.YtffjhhpikgodiaaDoor
