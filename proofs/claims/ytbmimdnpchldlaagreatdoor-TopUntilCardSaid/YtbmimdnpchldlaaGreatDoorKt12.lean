/- Several texts in one: TruP; TruA; Form; FormB; FormC; RawF; PrA. No condition. -/
import Derived.Test.YtbmimdnpchldlaaGreatDoorKt11
import Derived.Test.YtbmimdnpchldlaaGreatDoorKt7
import Derived.Test.YtbmimdnpchldlaaGreatDoorKt3
import Derived.Deep.RegionLaw
import Derived.BigQuiet
import Derived.Deep.RegionHeld3
import Derived.Test.YtbmimdnpchldlaaGreatDoorKt6
import Derived.Test.YtbmimdnpchldlaaGreatDoorKt10
import Derived.Deep.DeepCutAuto
namespace Go.Proofs.YtbmimdnpchldlaaGreatDoor

/-- The truths of all terms of a formula, by places, where b ops that look ahead stand in front of it. -/
def tvT (L : List Bool) (c : Nat) : Tm → Nat → List Bool
  | .n0 k v, b => [if aheadB k then c.testBit b else if k = 13 then L.getD v.toNat false else decide (k = 11)]
  | .n1 k _ a, b => (if aheadB k then c.testBit b else !(tvT L c a (b + (if aheadB k then 1 else 0))).headD false) :: tvT L c a (b + (if aheadB k then 1 else 0))
  | .n2 k _ x y, b =>
    (if aheadB k then c.testBit b
      else if k = 8 then (tvT L c x (b + (if aheadB k then 1 else 0))).headD false && (tvT L c y (b + (if aheadB k then 1 else 0) + cntA x.flat)).headD false
      else (tvT L c x (b + (if aheadB k then 1 else 0))).headD false || (tvT L c y (b + (if aheadB k then 1 else 0) + cntA x.flat)).headD false) ::
      (tvT L c x (b + (if aheadB k then 1 else 0)) ++ tvT L c y (b + (if aheadB k then 1 else 0) + cntA x.flat))

theorem tvT_len (L : List Bool) (c : Nat) (t : Tm) : ∀ b, (tvT L c t b).length = t.size := by
  induction t with
  | n0 => intro b; rfl
  | n1 k v a ih => intro b; simp [tvT, Tm.size, ih]
  | n2 k v x y ih1 ih2 => intro b; simp [tvT, Tm.size, ih1, ih2]

/-- The place of an op's second part: where its first part ends. -/
def secAt (es : List Int) (i : Nat) : Nat := (es.getD (i + 1) 0).toNat

/-- What each op makes, out of what its parts make. -/
structure TvAt (L : List Bool) (c : Nat) (l : List Op2) (es : List Int) (tv : List Bool) (i : Nat) (k v : Int) : Prop where
  one : partsOf k = 1 ∨ partsOf k = 2 → i + 1 < l.length
  two : partsOf k = 2 → es[i + 1]? = some (secAt es i : Int) ∧ i + 1 < secAt es i ∧ secAt es i < l.length
  ah : aheadB k = true → tv[i]? = some (c.testBit (cntA (l.take i)))
  prop : k = 13 → tv[i]? = some (L.getD v.toNat false)
  yes : k = 11 → tv[i]? = some true
  no : k = 12 → tv[i]? = some false
  not : k = 10 → tv[i]? = some (!tv.getD (i + 1) false)
  and : k = 8 → tv[i]? = some (tv.getD (i + 1) false && tv.getD (secAt es i) false)
  or : k = 9 → tv[i]? = some (tv.getD (i + 1) false || tv.getD (secAt es i) false)

theorem getD_mid (a b c : List Bool) (h : 0 < b.length) : (a ++ b ++ c).getD a.length false = b.headD false := by
  cases b with
  | nil => simp at h
  | cons x b => simp [List.getD]

theorem tv_law (L : List Bool) (c : Nat) (t : Tm) (ht : t.ok) : ∀ (pre post : List Op2) (ea eb : List Int) (ta tb : List Bool), ea.length = pre.length → ta.length = pre.length →
    ∀ i, i < t.size → ∀ k v, (pre ++ t.flat ++ post)[pre.length + i]? = some (k, v) →
      TvAt L c (pre ++ t.flat ++ post) (ea ++ t.ends pre.length ++ eb) (ta ++ tvT L c t (cntA pre) ++ tb) (pre.length + i) k v := by
  induction t with
  | n0 k0 v0 =>
    intro pre post ea eb ta tb he hta i hi k v hkv
    obtain ⟨h1, h2, h3⟩ := ht
    simp only [Tm.size] at hi
    obtain rfl : i = 0 := by omega
    simp only [Tm.flat, Nat.add_zero] at hkv ⊢
    have hkv' : k0 = k ∧ v0 = v := by simpa using hkv
    obtain ⟨rfl, rfl⟩ := hkv'
    have htv : (ta ++ tvT L c (.n0 k0 v0) (cntA pre) ++ tb)[pre.length]? = some (if aheadB k0 then c.testBit (cntA pre) else if k0 = 13 then L.getD v0.toNat false else decide (k0 = 11)) := by
      rw [← hta]; simp [tvT]
    have hnp : ∀ j : Int, partsOf j ≠ 0 → k0 ≠ j := fun j hj e => by subst e; exact hj h3
    refine ⟨fun h => by omega, fun h => by omega, fun h => ?_, fun h => ?_, fun h => ?_, fun h => ?_, fun h => ?_, fun h => ?_, fun h => ?_⟩
    · rw [htv, if_pos h]; simp
    · subst h; rw [htv]; simp [aheadB]
    · subst h; rw [htv]; simp [aheadB]
    · subst h; rw [htv]; simp [aheadB]
    · exact absurd h (hnp 10 (by decide))
    · exact absurd h (hnp 8 (by decide))
    · exact absurd h (hnp 9 (by decide))
  | n1 k0 v0 a ih =>
    intro pre post ea eb ta tb he hta i hi k v hkv
    obtain ⟨h1, h2, h3, h4⟩ := ht
    have hfl := a.flat_len
    have hel := a.ends_len (pre.length + 1)
    have hsz := a.size_pos
    have htl := tvT_len L c a (cntA (pre ++ [(k0, v0)]))
    have hcn : cntA (pre ++ [(k0, v0)]) = cntA pre + (if aheadB k0 then 1 else 0) := by rw [cntA_app]; simp [cntA]
    have e1 : pre ++ Tm.flat (.n1 k0 v0 a) ++ post = (pre ++ [(k0, v0)]) ++ a.flat ++ post := by simp [Tm.flat]
    have e2 : ea ++ Tm.ends (.n1 k0 v0 a) pre.length ++ eb = (ea ++ [((pre.length + 1 + a.size : Nat) : Int)]) ++ a.ends (pre ++ [(k0, v0)]).length ++ eb := by simp [Tm.ends]
    obtain ⟨h0, hh0⟩ : ∃ x, x = (if aheadB k0 then c.testBit (cntA pre) else !(tvT L c a (cntA (pre ++ [(k0, v0)]))).headD false) := ⟨_, rfl⟩
    have e3 : ta ++ tvT L c (.n1 k0 v0 a) (cntA pre) ++ tb = (ta ++ [h0]) ++ tvT L c a (cntA (pre ++ [(k0, v0)])) ++ tb := by rw [hh0, hcn]; simp [tvT]
    rw [e1] at hkv
    rw [e1, e2, e3]
    by_cases hi0 : i = 0
    · subst hi0
      have hkv' : k0 = k ∧ v0 = v := by simpa using hkv
      obtain ⟨rfl, rfl⟩ := hkv'
      have hat : ((ta ++ [h0]) ++ tvT L c a (cntA (pre ++ [(k0, v0)])) ++ tb)[pre.length + 0]? = some h0 := by rw [Nat.add_zero, ← hta]; simp
      have hnx : ((ta ++ [h0]) ++ tvT L c a (cntA (pre ++ [(k0, v0)])) ++ tb).getD (pre.length + 0 + 1) false = (tvT L c a (cntA (pre ++ [(k0, v0)]))).headD false := by
        have := getD_mid (ta ++ [h0]) (tvT L c a (cntA (pre ++ [(k0, v0)]))) tb (by omega)
        rw [← this]; simp [hta]
      have htk : ((pre ++ [(k0, v0)]) ++ a.flat ++ post).take (pre.length + 0) = pre := by simp
      have hnp : ∀ j : Int, partsOf j ≠ 1 → k0 ≠ j := fun j hj e => by subst e; exact hj h3
      refine ⟨fun h => by simp; omega, fun h => by omega, fun h => ?_, fun h => absurd h (hnp 13 (by decide)), fun h => absurd h (hnp 11 (by decide)), fun h => absurd h (hnp 12 (by decide)), fun h => ?_, fun h => absurd h (hnp 8 (by decide)), fun h => absurd h (hnp 9 (by decide))⟩
      · rw [hat, htk, hh0, if_pos h]
      · rw [hat, hnx, hh0]
        have : aheadB k0 = false := by subst h; decide
        rw [this]; rfl
    · have := ih h4 (pre ++ [(k0, v0)]) post (ea ++ [((pre.length + 1 + a.size : Nat) : Int)]) eb (ta ++ [h0]) tb (by simp [he]) (by simp [hta]) (i - 1) (by simp only [Tm.size] at hi; omega) k v (by
        rw [show (pre ++ [(k0, v0)]).length + (i - 1) = pre.length + i by simp; omega]; exact hkv)
      rw [show (pre ++ [(k0, v0)]).length + (i - 1) = pre.length + i by simp; omega] at this
      exact this
  | n2 k0 v0 x y ih1 ih2 =>
    intro pre post ea eb ta tb he hta i hi k v hkv
    obtain ⟨h1, h2, h3, h4, h5⟩ := ht
    have hfx := x.flat_len
    have hfy := y.flat_len
    have hsx := x.size_pos
    have hsy := y.size_pos
    have hex := x.ends_len (pre.length + 1)
    have hlx := tvT_len L c x (cntA (pre ++ [(k0, v0)]))
    have hly := tvT_len L c y (cntA (pre ++ [(k0, v0)] ++ x.flat))
    have hcx : cntA (pre ++ [(k0, v0)]) = cntA pre + (if aheadB k0 then 1 else 0) := by rw [cntA_app]; simp [cntA]
    have hcy : cntA (pre ++ [(k0, v0)] ++ x.flat) = cntA pre + (if aheadB k0 then 1 else 0) + cntA x.flat := by rw [cntA_app, hcx]
    have e1 : pre ++ Tm.flat (.n2 k0 v0 x y) ++ post = (pre ++ [(k0, v0)]) ++ x.flat ++ (y.flat ++ post) := by simp [Tm.flat]
    have e1' : pre ++ Tm.flat (.n2 k0 v0 x y) ++ post = (pre ++ [(k0, v0)] ++ x.flat) ++ y.flat ++ post := by simp [Tm.flat]
    obtain ⟨E0, hE0⟩ : ∃ e, e = ((pre.length + 1 + x.size + y.size : Nat) : Int) := ⟨_, rfl⟩
    have e2 : ea ++ Tm.ends (.n2 k0 v0 x y) pre.length ++ eb = (ea ++ [E0]) ++ x.ends (pre ++ [(k0, v0)]).length ++ (y.ends (pre.length + 1 + x.size) ++ eb) := by simp [Tm.ends, hE0]
    have e2' : ea ++ Tm.ends (.n2 k0 v0 x y) pre.length ++ eb = (ea ++ [E0] ++ x.ends (pre.length + 1)) ++ y.ends (pre ++ [(k0, v0)] ++ x.flat).length ++ eb := by
      rw [show (pre ++ [(k0, v0)] ++ x.flat).length = pre.length + 1 + x.size by simp [hfx]; omega]
      simp [Tm.ends, hE0]
    obtain ⟨h0, hh0⟩ : ∃ z, z = (if aheadB k0 then c.testBit (cntA pre) else if k0 = 8 then (tvT L c x (cntA (pre ++ [(k0, v0)]))).headD false && (tvT L c y (cntA (pre ++ [(k0, v0)] ++ x.flat))).headD false
      else (tvT L c x (cntA (pre ++ [(k0, v0)]))).headD false || (tvT L c y (cntA (pre ++ [(k0, v0)] ++ x.flat))).headD false) := ⟨_, rfl⟩
    have e3 : ta ++ tvT L c (.n2 k0 v0 x y) (cntA pre) ++ tb = (ta ++ [h0]) ++ tvT L c x (cntA (pre ++ [(k0, v0)])) ++ (tvT L c y (cntA (pre ++ [(k0, v0)] ++ x.flat)) ++ tb) := by rw [hh0, hcx, hcy]; simp [tvT]
    have e3' : ta ++ tvT L c (.n2 k0 v0 x y) (cntA pre) ++ tb = (ta ++ [h0] ++ tvT L c x (cntA (pre ++ [(k0, v0)]))) ++ tvT L c y (cntA (pre ++ [(k0, v0)] ++ x.flat)) ++ tb := by rw [e3]; simp
    by_cases hi0 : i = 0
    · subst hi0
      rw [e1] at hkv
      rw [e1, e2, e3]
      have hkv' : k0 = k ∧ v0 = v := by simpa using hkv
      obtain ⟨rfl, rfl⟩ := hkv'
      have hat : ((ta ++ [h0]) ++ tvT L c x (cntA (pre ++ [(k0, v0)])) ++ (tvT L c y (cntA (pre ++ [(k0, v0)] ++ x.flat)) ++ tb))[pre.length + 0]? = some h0 := by rw [Nat.add_zero, ← hta]; simp
      have hnx : ((ta ++ [h0]) ++ tvT L c x (cntA (pre ++ [(k0, v0)])) ++ (tvT L c y (cntA (pre ++ [(k0, v0)] ++ x.flat)) ++ tb)).getD (pre.length + 0 + 1) false = (tvT L c x (cntA (pre ++ [(k0, v0)]))).headD false := by
        have := getD_mid (ta ++ [h0]) (tvT L c x (cntA (pre ++ [(k0, v0)]))) (tvT L c y (cntA (pre ++ [(k0, v0)] ++ x.flat)) ++ tb) (by omega)
        rw [← this]; simp [hta]
      have hes : ((ea ++ [E0]) ++ x.ends (pre ++ [(k0, v0)]).length ++ (y.ends (pre.length + 1 + x.size) ++ eb))[pre.length + 0 + 1]? = some (((pre.length + 1 + x.size : Nat)) : Int) := by
        have hz := ends_zero x (pre.length + 1) (by rw [hex]; exact hsx)
        have hl2 : (pre ++ [(k0, v0)]).length = pre.length + 1 := by simp
        rw [hl2, List.append_assoc, List.getElem?_append_right (by simp [he]), List.getElem?_append_left (by rw [hex]; simp [he]; exact hsx)]
        rw [show pre.length + 0 + 1 - (ea ++ [E0]).length = 0 by simp [he], List.getElem?_eq_getElem (by rw [hex]; exact hsx), hz]
      have hsec : secAt ((ea ++ [E0]) ++ x.ends (pre ++ [(k0, v0)]).length ++ (y.ends (pre.length + 1 + x.size) ++ eb)) (pre.length + 0) = pre.length + 1 + x.size := by
        unfold secAt
        rw [List.getD, hes]
        show ((pre.length + 1 + x.size : Nat) : Int).toNat = _
        omega
      have hny : ((ta ++ [h0]) ++ tvT L c x (cntA (pre ++ [(k0, v0)])) ++ (tvT L c y (cntA (pre ++ [(k0, v0)] ++ x.flat)) ++ tb)).getD (pre.length + 1 + x.size) false = (tvT L c y (cntA (pre ++ [(k0, v0)] ++ x.flat))).headD false := by
        have := getD_mid (ta ++ [h0] ++ tvT L c x (cntA (pre ++ [(k0, v0)]))) (tvT L c y (cntA (pre ++ [(k0, v0)] ++ x.flat))) tb (by omega)
        rw [← this]
        congr 1
        · simp
        · simp [hta, hlx]; omega
      have htk : ((pre ++ [(k0, v0)]) ++ x.flat ++ (y.flat ++ post)).take (pre.length + 0) = pre := by simp
      have hnp : ∀ j : Int, partsOf j ≠ 2 → k0 ≠ j := fun j hj e => by subst e; exact hj h3
      refine ⟨fun h => by simp; omega, fun h => ?_, fun h => ?_, fun h => absurd h (hnp 13 (by decide)), fun h => absurd h (hnp 11 (by decide)), fun h => absurd h (hnp 12 (by decide)), fun h => absurd h (hnp 10 (by decide)), fun h => ?_, fun h => ?_⟩
      · rw [hsec]
        exact ⟨hes, by omega, by simp; omega⟩
      · rw [hat, htk, hh0, if_pos h]
      · rw [hat, hnx, hsec, hny, hh0]
        have : aheadB k0 = false := by subst h; decide
        rw [this, if_pos h]; rfl
      · rw [hat, hnx, hsec, hny, hh0]
        have : aheadB k0 = false := by subst h; decide
        rw [this, if_neg (show ¬ k0 = 8 by omega)]; rfl
    · by_cases hix : i - 1 < x.size
      · rw [e1] at hkv
        rw [e1, e2, e3]
        have := ih1 h4 (pre ++ [(k0, v0)]) (y.flat ++ post) (ea ++ [E0]) (y.ends (pre.length + 1 + x.size) ++ eb) (ta ++ [h0]) (tvT L c y (cntA (pre ++ [(k0, v0)] ++ x.flat)) ++ tb) (by simp [he]) (by simp [hta]) (i - 1) hix k v (by
          rw [show (pre ++ [(k0, v0)]).length + (i - 1) = pre.length + i by simp; omega]; exact hkv)
        rw [show (pre ++ [(k0, v0)]).length + (i - 1) = pre.length + i by simp; omega] at this
        exact this
      · rw [e1'] at hkv
        rw [e1', e2', e3']
        have hpl : (pre ++ [(k0, v0)] ++ x.flat).length + (i - 1 - x.size) = pre.length + i := by simp [hfx]; omega
        have := ih2 h5 (pre ++ [(k0, v0)] ++ x.flat) post (ea ++ [E0] ++ x.ends (pre.length + 1)) eb (ta ++ [h0] ++ tvT L c x (cntA (pre ++ [(k0, v0)]))) tb (by simp [he, hex, hfx]) (by simp [hta, hlx, hfx]) (i - 1 - x.size) (by simp only [Tm.size] at hi; omega) k v (by rw [hpl]; exact hkv)
        rw [hpl] at this
        exact this

end Go.Proofs.YtbmimdnpchldlaaGreatDoor

namespace Go.Proofs.YtbmimdnpchldlaaGreatDoor
open Go.RowKit

theorem Tryz.slBools : SlTy Tryz.prog 53 4 (.bool false) 1 1 := SlTy.mk' Tryz.underlying53 (by kernel_rfl) (by rfl) (by omega)

/-- Truths from a place on; ahead of it nothing yet. -/
def mixL (tv : List Bool) (i : Nat) : List Bool := List.replicate i false ++ tv.drop i
theorem mixL_len {tv : List Bool} {i : Nat} (h : i ≤ tv.length) : (mixL tv i).length = tv.length := by simp [mixL]; omega
theorem mixL_get {tv : List Bool} {i j : Nat} (hj : i ≤ j) : (mixL tv i)[j]? = tv[j]? := by
  rw [mixL, List.getElem?_append_right (by simpa using hj), List.length_replicate, List.getElem?_drop]
  congr 1; omega
theorem mixL_at {tv : List Bool} {i : Nat} : (mixL tv (i + 1))[i]? = some false := by
  rw [mixL, List.getElem?_append_left (by simp), List.getElem?_replicate, if_pos (by omega)]
theorem mixL_set {tv : List Bool} {i : Nat} {b : Bool} (h : tv[i]? = some b) : (mixL tv (i + 1)).set i b = mixL tv i := by
  obtain ⟨hl, he⟩ := List.getElem?_eq_some_iff.1 h
  apply List.ext_getElem?
  intro j
  rw [List.getElem?_set]
  by_cases hij : i = j
  · subst hij
    rw [if_pos rfl, if_pos (by rw [mixL_len (by omega)]; exact hl), mixL_get (Nat.le_refl _), h]
  · rw [if_neg hij]
    by_cases hlt : i < j
    · rw [mixL_get (by omega), mixL_get (by omega)]
    · rw [mixL, mixL, List.getElem?_append_left (by simp; omega), List.getElem?_append_left (by simp; omega), List.getElem?_replicate, List.getElem?_replicate, if_pos (by omega), if_pos (by omega)]
theorem mixL_no {tv : List Bool} {i : Nat} (h : tv[i]? = some false) : mixL tv (i + 1) = mixL tv i := by
  have := mixL_set h
  rw [← this]
  apply List.ext_getElem?
  intro j
  rw [List.getElem?_set]
  by_cases hij : i = j
  · subst hij
    obtain ⟨hl, _⟩ := List.getElem?_eq_some_iff.1 h
    rw [if_pos rfl, if_pos (by rw [mixL_len (by omega)]; exact hl), mixL_at]
  · rw [if_neg hij]

theorem own_bool {w : World} {base D n cap i : Nat} {l : List Bool} {x : Bool} (h : w.ownsRow base 4 1 (.slice (some ⟨D, 0, none⟩) n cap) n (l.map .bool)) (hi : l[i]? = some x) : w.cell? ⟨D, i, none⟩ = some (.bool x) := by
  obtain ⟨hl, e⟩ := List.getElem?_eq_some_iff.1 hi
  refine (own_cellAt h (i := i) (by simpa using hl)).trans ?_
  rw [List.getElem_map, e]

theorem row_ints {α : Type} {f : α → Value} {w : World} {a : Option Addr} {n c : Nat} {l : List α} (h : Row w 1 a n c (l.map f)) : ∃ b off, (0 < l.length → a = some ⟨b, off, none⟩) ∧ ∀ (i : Nat) (x : α), l[i]? = some x → w.cell? ⟨b, off + i, none⟩ = some (f x) := by
  obtain ⟨b, off, _, h2, h3⟩ := h.lie
  exact ⟨b, off, fun hl => h2 (by simpa using hl), fun i x hi => h3 i _ (by rw [List.getElem?_map, hi]; rfl)⟩

set_option maxRecDepth 100000 in
theorem tru1_any (w : World) (O D A n at' : Nat) (b : Bool) (hO : w.heap[O]? = some (.cells #[.slice (some ⟨D, 0, none⟩) n n] 53 (0, 0))) (hA : w.heap[A]? = some (.cells #[.int .i64 (at' : Int)] 3 (0, 0)))
    (hc : w.cell? ⟨D, at' + 1, none⟩ = some (.bool b)) (hn : at' + 1 < n) (hn6 : n ≤ 60) :
    Calls Tryz.prog 106 #[.pointer (some ⟨O, 0, none⟩), .pointer (some ⟨A, 0, none⟩)] w fun e w' => e = .returned (.bool b) ∧ w = w' := by
  have cO := blk_cell hO (i := 0) rfl
  have cA := blk_cell hA (i := 0) rfl
  have hnI : (at' : Int) + 1 < (n : Int) := by omega
  have hn0 : (0 : Int) ≤ (at' : Int) + 1 := by omega
  have hto : ((at' : Int) + 1).toNat = at' + 1 := by omega
  clear hO hA
  go_enter Tryz.func106, Tryz.ntmps106
  go_wp2
  go_ret
  exact ⟨rfl, rfl⟩

set_option maxRecDepth 100000 in
theorem tru2_any (w : World) (O D E A n at' s : Nat) (ae : Option Addr) (ce ne : Nat) (es : List Int) (b : Bool) (hO : w.heap[O]? = some (.cells #[.slice (some ⟨D, 0, none⟩) n n] 53 (0, 0))) (hA : w.heap[A]? = some (.cells #[.int .i64 (at' : Int)] 3 (0, 0)))
    (hE : w.heap[E]? = some (.cells #[.slice ae ne ce] 27 (0, 0))) (hes : Row w 1 ae ne ce (es.map (.int .i64))) (he : es[at' + 1]? = some (s : Int))
    (hc : w.cell? ⟨D, s, none⟩ = some (.bool b)) (hs : s < n) (ha : at' < 60) :
    Calls Tryz.prog 107 #[.pointer (some ⟨O, 0, none⟩), .pointer (some ⟨E, 0, none⟩), .pointer (some ⟨A, 0, none⟩)] w fun e w' => e = .returned (.bool b) ∧ ∃ q, w' = w.drewN q := by
  have cO := blk_cell hO (i := 0) rfl
  have cA := blk_cell hA (i := 0) rfl
  have cE := blk_cell hE (i := 0) rfl
  have hel : es.length = ne := by have := hes.len; simpa using this
  obtain ⟨hl, he'⟩ := List.getElem?_eq_some_iff.1 he
  obtain ⟨bb, oo, h1, h3⟩ := row_ints hes
  obtain rfl := h1 (by omega)
  have cN := h3 _ _ he
  have hnI : (at' : Int) + 1 < (ne : Int) := by omega
  have hn0 : (0 : Int) ≤ (at' : Int) + 1 := by omega
  have hto : ((at' : Int) + 1).toNat = at' + 1 := by omega
  have hsI : (s : Int) < (n : Int) := by omega
  have hs0 : (0 : Int) ≤ (s : Int) := by omega
  clear hO hA hE h1 h3 he he' hes hel
  go_enter Tryz.func107, Tryz.ntmps107
  go_wp2_with fail
  go_quiet (fail)
  go_wp2
  go_ret
  exact ⟨rfl, _, rfl⟩

/-- Where Truths lies at. -/
structure TM (W2 w : World) (O D A n : Nat) (tv : List Bool) (i : Nat) : Prop where
  ext : Ext W2 w
  o : w.heap[O]? = some (.cells #[.slice (some ⟨D, 0, none⟩) n n] 53 (0, 0))
  a : w.heap[A]? = some (.cells #[.int .i64 ((i : Int) - 1)] 3 (0, 0))
  row : w.ownsRow W2.heap.size 4 1 (.slice (some ⟨D, 0, none⟩) n n) n ((mixL tv i).map .bool)
  oa : A ≠ O
  od : O ≠ D
  ad : A ≠ D
  lo : W2.heap.size ≤ O
  la : W2.heap.size ≤ A

theorem TM.drew {W2 w : World} {O D A n : Nat} {tv : List Bool} {i : Nat} (h : TM W2 w O D A n tv i) (q : Nat) : TM W2 (w.drewN q) O D A n tv i :=
  ⟨below_drewN h.ext q, blk_ext h.o (below_drewN (Ext.refl _) q), blk_ext h.a (below_drewN (Ext.refl _) q), own_ext h.row (below_drewN (Ext.refl _) q), h.oa, h.od, h.ad, h.lo, h.la⟩
theorem TM.put {W2 w : World} {O D A n : Nat} {tv : List Bool} {i : Nat} {b : Bool} (h : TM W2 w O D A n tv (i + 1)) (hb : tv[i]? = some b) :
    let w1 := w.setCell ⟨D, i, none⟩ (.bool b)
    Ext W2 w1 ∧ w1.heap[O]? = some (.cells #[.slice (some ⟨D, 0, none⟩) n n] 53 (0, 0)) ∧ w1.ownsRow W2.heap.size 4 1 (.slice (some ⟨D, 0, none⟩) n n) n ((mixL tv i).map .bool) := by
  have hD := (h.row.lt D rfl).1
  refine ⟨ext_st h.ext (p := ⟨D, i, none⟩) hD _, blk_far h.o (p := ⟨D, i, none⟩) (Ne.symm h.od) _, ?_⟩
  have := own_setAt h.row (i := i) (.bool b)
  rw [← List.map_set, mixL_set hb] at this
  exact this

theorem TM.later {W2 w w' : World} {O D A n : Nat} {tv : List Bool} {i : Nat} (h : TM W2 w O D A n tv i) (hE : Ext w w') : TM W2 w' O D A n tv i :=
  ⟨h.ext.trans hE, blk_ext h.o hE, blk_ext h.a hE, own_ext h.row hE, h.oa, h.od, h.ad, h.lo, h.la⟩

/-- One place further to the front. -/
theorem TM.next {W2 w : World} {O D n j A' : Nat} {tv : List Bool} (hE : Ext W2 w) (ho : w.heap[O]? = some (.cells #[.slice (some ⟨D, 0, none⟩) n n] 53 (0, 0))) (hr : w.ownsRow W2.heap.size 4 1 (.slice (some ⟨D, 0, none⟩) n n) n ((mixL tv j).map .bool)) (od : O ≠ D) (lo : W2.heap.size ≤ O) (hA : A' = w.heap.size) :
    TM W2 (w.alloc (.cells #[.int .i64 ((j : Int) - 1)] 3)) O D A' n tv j := by
  subst hA
  have hO := blk_lt ho
  have hD := (hr.lt D rfl).2
  have hx := ext_al (Ext.refl w) (Obj.cells #[.int .i64 ((j : Int) - 1)] 3)
  exact ⟨hE.trans hx, blk_ext ho hx, blk_new w _, own_ext hr hx, by omega, od, by omega, lo, hE.size⟩
theorem TM.fin {W2 w w' W5 : World} {O D A n j A' : Nat} {tv : List Bool} {b : Bool} (h : TM W2 w O D A n tv (j + 1)) (hx : Ext w w') (hb : tv[j]? = some b) (h5 : W5 = w'.setCell ⟨D, j, none⟩ (.bool b)) (hA : A' = W5.heap.size) :
    TM W2 (W5.alloc (.cells #[.int .i64 ((j : Int) - 1)] 3)) O D A' n tv j := by
  obtain ⟨p1, p2, p3⟩ := (h.later hx).put hb
  subst h5
  exact TM.next p1 p2 p3 h.od h.lo hA
theorem TM.same {W2 w : World} {O D A n j A' : Nat} {tv : List Bool} (h : TM W2 w O D A n tv (j + 1)) (hb : tv[j]? = some false) (hA : A' = w.heap.size) :
    TM W2 (w.alloc (.cells #[.int .i64 ((j : Int) - 1)] 3)) O D A' n tv j := by
  have hr := h.row
  rw [mixL_no hb] at hr
  exact TM.next h.ext h.o hr h.od h.lo hA

theorem tv_at (L : List Bool) (c : Nat) (t : Tm) (ht : t.ok) (i : Nat) (k v : Int) (h : t.flat[i]? = some (k, v)) : TvAt L c t.flat (t.ends 0) (tvT L c t 0) i k v := by
  obtain ⟨hl, _⟩ := List.getElem?_eq_some_iff.1 h
  have := tv_law L c t ht [] [] [] [] [] [] rfl rfl i (by rw [← Tm.flat_len]; exact hl) k v (by simpa using h)
  simpa [cntA] using this

theorem bit_shr (c n : Nat) (hc : c < 64) : (bits .and .i64 ((c : Int) / 2 ^ n) 1 == 1) = c.testBit n := by
  have e : (c : Int) / 2 ^ n = ((c / 2 ^ n : Nat) : Int) := by push_cast; rfl
  have hle : c / 2 ^ n ≤ c := Nat.div_le_self _ _
  have h := i64_and_nat (c / 2 ^ n) 1 (by omega) (by omega)
  rw [e, show (1 : Int) = ((1 : Nat) : Int) from rfl, h, Nat.and_one_is_mod, Nat.testBit_eq_decide_div_mod_eq, Bool.eq_iff_iff, beq_iff_eq, decide_eq_true_eq]
  omega

theorem getD_some {l : List Bool} {i : Nat} (h : i < l.length) : l[i]? = some (l.getD i false) := by simp [List.getD, List.getElem?_eq_getElem h]

set_option maxRecDepth 100000 in
set_option maxHeartbeats 8000000 in
theorem truths_any (v : Value) (l : List Op2) (t : Tm) (vl : Value) (L : List Bool) (c : Nat) (w : World) (h : Ops w v l) (ht : Tab w) (hf : IsF l (L.length : Int) t) (hL : Bools w vl L) (hc : c < 2 ^ cntA l) :
    Calls Tryz.prog 75 #[v, vl, .int .i64 (c : Int)] w fun e w' => ∃ D, e = .returned (.tuple #[.slice (some ⟨D, 0, none⟩) l.length l.length, .int .i64 0]) ∧ w'.ownsRow w.heap.size 4 1 (.slice (some ⟨D, 0, none⟩) l.length l.length) l.length ((tvT L c t 0).map .bool) ∧ Ext w w' := by
  have hen := ends_term t hf.ok hf.small
  rw [hf.flat] at hen
  have HPL := Lib.hid (places_any v l (L.length : Int) t w h ht hf)
  have HEN := Lib.hid fun wx (hx : Ext w wx) => by have H := ends_any v l wx (h.ext hx) (ht.ext hx); rw [hen] at H; exact H
  have hl60 : l.length ≤ 60 := by rw [← hf.flat, Tm.flat_len]; exact hf.small
  have hpos : 0 < l.length := by rw [← hf.flat, Tm.flat_len]; exact t.size_pos
  have htl : (tvT L c t 0).length = l.length := by rw [tvT_len, ← Tm.flat_len, hf.flat]
  have hel : (t.ends 0).length = l.length := by rw [Tm.ends_len, ← Tm.flat_len, hf.flat]
  have HTV := Lib.hid fun i k v (hi : l[i]? = some (k, v)) => by have := tv_at L c t hf.ok i k v (by rw [hf.flat]; exact hi); rw [hf.flat] at this; exact this
  obtain ⟨a, cap, rfl, hr⟩ := h
  obtain ⟨al, cl, rfl, hrl⟩ := hL
  have HR := Lib.hid hr
  have HRL := Lib.hid hrl
  have HF := Lib.hid hf
  have hpl := plL_len l
  have hc6 := hf.cnt
  have hcp : 2 ^ cntA l ≤ 2 ^ 6 := Nat.pow_le_pow_right (by omega) hc6
  have hpe : ((2 ^ cntA l : Nat) : Int) = (2 : Int) ^ cntA l := by push_cast; rfl
  have hw0 : IntKind.i64.wrap ((2 : Int) ^ cntA l) = (2 : Int) ^ cntA l := IntWalk.i64_in _ (by omega)
  obtain ⟨PM, hPM⟩ : ∃ PM, (2 : Int) ^ cntA l = PM := ⟨_, rfl⟩
  rw [hPM] at hpe
  replace hw0 := hw0.trans hPM
  have hcI : ¬ PM ≤ (c : Int) := by omega
  have hc0 : ¬ (c : Int) < 0 := by omega
  generalize t.ends 0 = es at *
  generalize tvT L c t 0 = tv at *
  have hmf : ∀ (fn : Fn) (first cap : Array Value) (w : World), (Instr.makeFunc fn first cap).run Tryz.prog w = .ok (.func fn first cap) w := fun _ _ _ _ => rfl
  have HTL := Lib.hid htl
  have HEL := Lib.hid hel
  have hc64 : c < 64 := by omega
  clear hen hf hr hrl ht htl hel hpe hcp hc hPM
  rw [hpl] at HPL
  clear hpl
  generalize hcn : cntA l = N at *
  have HCN := Lib.hid hcn
  clear hcn
  have HLL := Lib.hid fun i (hi : i < l.length) => cntA_take l hi
  have HCT := Lib.hid (show cntA (l.take l.length) = N by rw [List.take_length]; exact HCN.out)
  go_enter Tryz.func75, Tryz.ntmps75
  go_wp2_with fail
  refine HPL.out.mono ?_
  rintro e w1 ⟨ap, cp, rfl, -, hE1⟩
  have HE1 := Lib.hid hE1
  clear hE1 HPL
  go_wp2_with fail
  refine (HEN.out _ HE1.out).mono ?_
  rintro e w2 ⟨hE2, v2, rfl, hown2⟩
  obtain ⟨ae, ce, rfl, hre⟩ := hown2.row
  have hx := ext_al (Ext.refl w2) (Obj.cells #[.slice ae es.length ce] 27)
  have HRE := Lib.hid (hre.ext hx)
  have BE := Lib.hid (blk_new w2 (Obj.cells #[.slice ae es.length ce] 27))
  have HE2 := Lib.hid ((HE1.out.trans hE2).trans hx)
  clear hown2 hre hE2 hx HEN HE1
  go_wp2_with (at_make; go_must (refine wpList_make_full _ rfl _ _ 53 rfl (w2.heap.size + 1) 4 (Tryz.slBools.inf.choose) (.bool false) 1 Tryz.underlying53 Tryz.slBools.inf.choose_spec.1 Tryz.slBools.inf.choose_spec.2.1 Tryz.slBools.inf.choose_spec.2.2.1 .i64 .i64 l.length l.length l.length rfl rfl rfl rfl (by rw [Tryz.slBools.inf.choose_spec.2.2.2]; omega) (by unfold maxLen; omega) (by simp) ?_))
  intro w3 hown3 hg3
  have hmx : (madeCells #[Value.bool false] l.length).toList = (mixL tv l.length).map .bool := by
    rw [toList_madeCells_one, mixL, List.drop_of_length_le (by rw [HTL.out]; exact Nat.le_refl _), List.append_nil, List.map_replicate]
  rw [hmx] at hown3
  have hW2 : (w2.alloc (Obj.cells #[.slice ae es.length ce] 27)).heap.size = w2.heap.size + 1 := by simp
  have hE3 : Ext (w2.alloc (Obj.cells #[.slice ae es.length ce] 27)) w3 := (Ext.refl _).grown hg3 (Nat.le_refl _) (by simp)
  have hD3 : w2.heap.size + 1 < w3.heap.size := (hown3.lt _ rfl).2
  have hxO := ext_al (Ext.refl w3) (Obj.cells #[.slice (some ⟨w2.heap.size + 1, 0, none⟩) l.length l.length] 53)
  have bO := blk_new w3 (Obj.cells #[.slice (some ⟨w2.heap.size + 1, 0, none⟩) l.length l.length] 53)
  have hTM : TM (w2.alloc (Obj.cells #[.slice ae es.length ce] 27)) ((w3.alloc (Obj.cells #[.slice (some ⟨w2.heap.size + 1, 0, none⟩) l.length l.length] 53)).alloc (Obj.cells #[.int .i64 ((l.length : Int) - 1)] 3)) w3.heap.size (w2.heap.size + 1) (w3.heap.size + 1) l.length tv l.length :=
    ⟨ext_al (hE3.trans hxO) _, blk_ext bO (ext_al (Ext.refl _) _), by
      have := blk_new (w3.alloc (Obj.cells #[.slice (some ⟨w2.heap.size + 1, 0, none⟩) l.length l.length] 53)) (Obj.cells #[.int .i64 ((l.length : Int) - 1)] 3)
      rw [show (w3.alloc (Obj.cells #[.slice (some ⟨w2.heap.size + 1, 0, none⟩) l.length l.length] 53)).heap.size = w3.heap.size + 1 by simp] at this
      exact this, own_ext (by rw [hW2]; exact hown3) (ext_al hxO _), by omega, by omega, by omega, by rw [hW2]; omega, by rw [hW2]; omega⟩
  have HTM := Lib.hid hTM
  clear hown3 hg3 hmx hE3 hD3 hxO bO hTM
  go_wp2_with fail
  generalize (w3.alloc (Obj.cells #[.slice (some ⟨w2.heap.size + 1, 0, none⟩) l.length l.length] 53)).alloc (Obj.cells #[.int .i64 ((l.length : Int) - 1)] 3) = W5 at *
  generalize w3.heap.size + 1 = A0 at *
  generalize w3.heap.size = O at *
  generalize w2.alloc (Obj.cells #[.slice ae es.length ce] 27) = W2 at *
  generalize w2.heap.size + 1 = D at *
  generalize w2.heap.size = E at *
  clear hW2
  go_loopg [13, 14] l.length (fun m x y wr => ∃ (i A : Nat), m = i ∧ i ≤ l.length ∧ x = .int .i64 (cntA (l.take i) : Int) ∧ y = .pointer (some ⟨A, 0, none⟩) ∧ TM W2 wr O D A l.length tv i)
  case atStart => exact ⟨l.length, A0, rfl, Nat.le_refl _, by rw [HCT.out], rfl, HTM.out⟩
  case round =>
    obtain ⟨i, A, hgi, hil, rfl, rfl, hT⟩ := hrel
    have HGI := Lib.hid hgi
    clear HTM hgi
    have HT := Lib.hid hT
    cases i with
    | zero =>
      have cA := blk_cell hT.a (i := 0) rfl
      have cO := blk_cell hT.o (i := 0) rfl
      have hr := hT.row
      have e : mixL tv 0 = tv := by simp [mixL]
      rw [e] at hr
      have HRW := Lib.hid hr
      have HEW := Lib.hid (HE2.out.trans hT.ext)
      have HSZ := Lib.hid HE2.out.size
      clear hT hr e
      go_wp2
      go_ret2
      exact ⟨D, rfl, own_down HRW.out HSZ.out, HEW.out⟩
    | succ j =>
      have hj : j < l.length := by omega
      have haj : ((j + 1 : Nat) : Int) - 1 = (j : Int) := by omega
      have ha := hT.a
      rw [haj] at ha
      have cA := blk_cell ha (i := 0) rfl
      have cO := blk_cell hT.o (i := 0) rfl
      have hEW := HE2.out.trans hT.ext
      obtain ⟨b, off, hb, hc⟩ := (HR.out.ext hEW).ops
      obtain rfl := hb hpos
      obtain ⟨k1, k2⟩ := hc j hj
      have htva := HTV.out j l[j].1 l[j].2 (List.getElem?_eq_getElem hj)
      obtain ⟨hf1, hf2, hf3, hf4⟩ := HF.out.fit l[j] (by simp)
      have HTA := Lib.hid htva
      have HA := Lib.hid ha
      have HCL := Lib.hid (HLL.out j hj)
      have hjI : (j : Int) < (l.length : Int) := by omega
      have hj0 : (0 : Int) ≤ (j : Int) := by omega
      have hcD := own_bool hT.row (i := j) mixL_at
      have hfD := own_freeAt hT.row j
      have hAO := hT.oa
      have hOD := hT.od
      have hAD := hT.ad
      have hDO : ¬ D = O := fun e => hOD e.symm
      have hDA : ¬ D = A := fun e => hAD e.symm
      have hnA : ∀ b : Bool, tv.getD (j + 1) false = b → j + 1 < l.length → wr.cell? ⟨D, j + 1, none⟩ = some (.bool b) := fun b hb h => by
        have := getD_some (l := tv) (i := j + 1) (by rw [HTL.out]; exact h)
        rw [hb] at this
        exact own_bool hT.row (by rw [mixL_get (Nat.le_refl _)]; exact this)
      have hnB : ∀ (b : Bool) (s : Nat), tv.getD s false = b → j + 1 < s → s < l.length → wr.cell? ⟨D, s, none⟩ = some (.bool b) := fun b s hb h1 h2 => by
        have := getD_some (l := tv) (i := s) (by rw [HTL.out]; exact h2)
        rw [hb] at this
        exact own_bool hT.row (by rw [mixL_get (by omega)]; exact this)
      have HF1 := Lib.hid fun (b : Bool) (hb : tv.getD (j + 1) false = b) (h : j + 1 < l.length) wx (hx : Ext wr wx) => tru1_any wx O D A l.length j b (blk_ext hT.o hx) (blk_ext ha hx) (cell_later hx (hnA b hb h)) h hl60
      have HF2 := Lib.hid fun (b : Bool) (s : Nat) (hb : tv.getD s false = b) (h1 : j + 1 < s) (h2 : s < l.length) (h3 : es[j + 1]? = some (s : Int)) wx (hx : Ext wr wx) => tru2_any wx O D E A l.length j s ae ce es.length es b (blk_ext hT.o hx) (blk_ext ha hx) (blk_ext BE.out (hT.ext.trans hx)) (HRE.out.ext (hT.ext.trans hx)) h3 (cell_later hx (hnB b s hb h1 h2)) h2 (by omega)
      clear hnA hnB
      generalize cntA (l.take (j + 1)) = cn1 at *
      generalize hcn0 : cntA (l.take j) = cn0 at *
      have HC0 := Lib.hid hcn0
      generalize hlj : l[j] = o at *
      obtain ⟨k, u⟩ := o
      simp only at k1 k2 hf1 hf2 hf3 hf4 HTA HCL
      have HLJ := Lib.hid hlj
      clear hc hb hT htva ha hcn0 hlj
      have hcase : k = 13 ∨ k = 11 ∨ k = 12 ∨ k = 10 ∨ k = 8 ∨ k = 9 ∨ 14 ≤ k := by omega
      rcases hcase with rfl | rfl | rfl | rfl | rfl | rfl | hk14
      · -- prop
        obtain ⟨h5, h6⟩ := hf3 rfl
        obtain ⟨un, rfl⟩ : ∃ un : Nat, u = (un : Int) := ⟨u.toNat, by omega⟩
        obtain ⟨bL, oL, hL1, hL2⟩ := row_ints (HRL.out.ext hEW)
        obtain rfl := hL1 (by omega)
        have cL := hL2 un _ (getD_some (by omega))
        have hpv := HTA.out.prop rfl
        rw [show ((un : Int)).toNat = un by omega] at hpv
        have HPV := Lib.hid hpv
        have hcc : cn1 = cn0 := HCL.out
        have HCC := Lib.hid hcc
        generalize L.getD un false = bb at *
        clear hpv hcc hL1 hL2 hf3 hf4 HF1 HF2
        go_wp2_with fail
        go_region
        all_goals
          go_wp2_with fail
          go_roundg j
          case measure => have := HGI.out; omega
          case rel => exact ⟨j, _, rfl, by omega, by rw [HCC.out, HC0.out], rfl, by first | exact HT.out.fin (w' := wr) (Ext.refl _) HPV.out rfl (by simp) | exact (HT.out.fin (w' := wr) (Ext.refl _) HPV.out rfl (by simp)).later (Below.drew (Ext.refl _)) | exact (HT.out.fin (w' := wr) (Ext.refl _) HPV.out rfl (by simp)).later (below_drewN (Ext.refl _) _)⟩
      · -- yes
        have HPV := Lib.hid (HTA.out.yes rfl)
        have hcc : cn1 = cn0 := HCL.out
        have HCC := Lib.hid hcc
        clear hcc hf3 hf4 HF1 HF2
        go_wp2_with fail
        go_roundg j
        case measure => have := HGI.out; omega
        case rel => exact ⟨j, _, rfl, by omega, by rw [HCC.out, HC0.out], rfl, by first | exact HT.out.fin (w' := wr) (Ext.refl _) HPV.out rfl (by simp) | exact (HT.out.fin (w' := wr) (Ext.refl _) HPV.out rfl (by simp)).later (Below.drew (Ext.refl _)) | exact (HT.out.fin (w' := wr) (Ext.refl _) HPV.out rfl (by simp)).later (below_drewN (Ext.refl _) _)⟩
      · -- no
        have HPV := Lib.hid (HTA.out.no rfl)
        have hcc : cn1 = cn0 := HCL.out
        have HCC := Lib.hid hcc
        clear hcc hf3 hf4 HF1 HF2
        go_wp2_with fail
        go_roundg j
        case measure => have := HGI.out; omega
        case rel => exact ⟨j, _, rfl, by omega, by rw [HCC.out, HC0.out], rfl, HT.out.same HPV.out rfl⟩
      · -- not
        have hpv := HTA.out.not rfl
        have hone := HTA.out.one (.inl rfl)
        obtain ⟨b1, hb1⟩ : ∃ b, tv.getD (j + 1) false = b := ⟨_, rfl⟩
        rw [hb1] at hpv
        have HFF := Lib.hid (HF1.out b1 hb1 hone)
        have HPV := Lib.hid hpv
        have hcc : cn1 = cn0 := HCL.out
        have HCC := Lib.hid hcc
        clear hcc hf3 hf4 HF1 HF2 hpv hone hb1
        go_wp2_with fail
        go_region_law (go_simp
                       go_at_call 106
                       refine (HFF.out _ (by first | exact Ext.refl _ | exact Below.drew (Ext.refl _))).mono ?_
                       rintro e wq ⟨rfl, rfl⟩)
        all_goals
          go_wp2_with fail
          go_roundg j
          case measure => have := HGI.out; omega
          case rel => exact ⟨j, _, rfl, by omega, by rw [HCC.out, HC0.out], rfl, by first | exact HT.out.fin (w' := wr) (Ext.refl _) HPV.out rfl (by simp) | exact (HT.out.fin (w' := wr) (Ext.refl _) HPV.out rfl (by simp)).later (Below.drew (Ext.refl _)) | exact (HT.out.fin (w' := wr) (Ext.refl _) HPV.out rfl (by simp)).later (below_drewN (Ext.refl _) _)⟩
      · -- and
        have hpv := HTA.out.and rfl
        have hone := HTA.out.one (.inr rfl)
        obtain ⟨ht1, ht2, ht3⟩ := HTA.out.two rfl
        obtain ⟨b1, hb1⟩ : ∃ b, tv.getD (j + 1) false = b := ⟨_, rfl⟩
        obtain ⟨s, hs⟩ : ∃ s, secAt es j = s := ⟨_, rfl⟩
        rw [hs] at hpv ht1 ht2 ht3
        obtain ⟨b2, hb2⟩ : ∃ b, tv.getD s false = b := ⟨_, rfl⟩
        rw [hb1, hb2] at hpv
        have HFF := Lib.hid (HF1.out b1 hb1 hone)
        have HSS := Lib.hid (HF2.out b2 s hb2 ht2 ht3 ht1)
        have hcc : cn1 = cn0 := HCL.out
        have HCC := Lib.hid hcc
        clear hcc hf3 hf4 HF1 HF2 hone hb1 hb2 ht1 ht2 ht3 hs
        cases b1
        · skip
          have HPV := Lib.hid hpv
          clear hpv
          go_wp2_with fail
          have HSF := Lib.hid (still_of (HFF.out wr.drew (Below.drew (Ext.refl _))))
          have cO' : wr.drew.cell? ⟨O, 0, none⟩ = some (.slice (some ⟨D, 0, none⟩) l.length l.length) := cO
          have cA' : wr.drew.cell? ⟨A, 0, none⟩ = some (.int .i64 (j : Int)) := cA
          refine region_tail 9 (by kernel_rfl) (by kernel_rfl) ?_
          generalize hWd : wr.drew = Wd at *
          have HWD := Lib.hid hWd
          clear hWd
          simp only [List.take_succ_cons, List.take_zero, List.drop_succ_cons, List.drop_zero]
          iterate 3 still_step
          still_call HSF.out
          iterate 5 still_step
          refine wpStill_nil ?_
          rw [← HWD.out]
          go_wp2_with fail
          go_roundg j
          case measure => have := HGI.out; omega
          case rel => exact ⟨j, _, rfl, by omega, by rw [HCC.out, HC0.out], rfl, by first | exact HT.out.fin (w' := wr) (Ext.refl _) HPV.out rfl (by simp) | exact (HT.out.fin (w' := wr) (Ext.refl _) HPV.out rfl (by simp)).later (Below.drew (Ext.refl _)) | exact (HT.out.fin (w' := wr) (Ext.refl _) HPV.out rfl (by simp)).later (below_drewN (Ext.refl _) _)⟩
        · skip
          have HPV := Lib.hid hpv
          clear hpv
          go_wp2_with fail
          go_region_held3 (fun w' => w'.cell? ⟨O, 0, none⟩ = some (.slice (some ⟨D, 0, none⟩) l.length l.length) ∧ w'.cell? ⟨A, 0, none⟩ = some (.int .i64 (j : Int)))
            ((first
              | go_keep
              | exact ⟨cell_later (below_drewN (Ext.refl _) _) cO, cell_later (below_drewN (Ext.refl _) _) cA⟩
              | exact ⟨cell_later (Below.drew (Ext.refl _)) cO, cell_later (Below.drew (Ext.refl _)) cA⟩))
            (first
              | (go_at_call 106
                 refine (HFF.out _ (by first | exact Ext.refl _ | exact Below.drew (Ext.refl _))).mono ?_
                 rintro e wq ⟨rfl, rfl⟩)
              | (go_at_call 107
                 refine (HSS.out _ (by first | exact Ext.refl _ | exact Below.drew (Ext.refl _))).mono ?_
                 rintro e wq ⟨rfl, q, rfl⟩))
          all_goals
            go_wp2_with fail
            go_roundg j
            case measure => have := HGI.out; omega
            case rel => exact ⟨j, _, rfl, by omega, by rw [HCC.out, HC0.out], rfl, by first | exact HT.out.fin (w' := wr) (Ext.refl _) HPV.out rfl (by simp) | exact (HT.out.fin (w' := wr) (Ext.refl _) HPV.out rfl (by simp)).later (Below.drew (Ext.refl _)) | exact (HT.out.fin (w' := wr) (Ext.refl _) HPV.out rfl (by simp)).later (below_drewN (Ext.refl _) _)⟩
      · -- or
        have hpv := HTA.out.or rfl
        have hone := HTA.out.one (.inr rfl)
        obtain ⟨ht1, ht2, ht3⟩ := HTA.out.two rfl
        obtain ⟨b1, hb1⟩ : ∃ b, tv.getD (j + 1) false = b := ⟨_, rfl⟩
        obtain ⟨s, hs⟩ : ∃ s, secAt es j = s := ⟨_, rfl⟩
        rw [hs] at hpv ht1 ht2 ht3
        obtain ⟨b2, hb2⟩ : ∃ b, tv.getD s false = b := ⟨_, rfl⟩
        rw [hb1, hb2] at hpv
        have HFF := Lib.hid (HF1.out b1 hb1 hone)
        have HSS := Lib.hid (HF2.out b2 s hb2 ht2 ht3 ht1)
        have hcc : cn1 = cn0 := HCL.out
        have HCC := Lib.hid hcc
        clear hcc hf3 hf4 HF1 HF2 hone hb1 hb2 ht1 ht2 ht3 hs
        cases b1
        · skip
          have HPV := Lib.hid hpv
          clear hpv
          go_wp2_with fail
          go_region_held3 (fun w' => w'.cell? ⟨O, 0, none⟩ = some (.slice (some ⟨D, 0, none⟩) l.length l.length) ∧ w'.cell? ⟨A, 0, none⟩ = some (.int .i64 (j : Int)))
            ((first
              | go_keep
              | exact ⟨cell_later (below_drewN (Ext.refl _) _) cO, cell_later (below_drewN (Ext.refl _) _) cA⟩
              | exact ⟨cell_later (Below.drew (Ext.refl _)) cO, cell_later (Below.drew (Ext.refl _)) cA⟩))
            (first
              | (go_at_call 106
                 refine (HFF.out _ (by first | exact Ext.refl _ | exact Below.drew (Ext.refl _))).mono ?_
                 rintro e wq ⟨rfl, rfl⟩)
              | (go_at_call 107
                 refine (HSS.out _ (by first | exact Ext.refl _ | exact Below.drew (Ext.refl _))).mono ?_
                 rintro e wq ⟨rfl, q, rfl⟩))
          all_goals
            go_wp2_with fail
            go_roundg j
            case measure => have := HGI.out; omega
            case rel => exact ⟨j, _, rfl, by omega, by rw [HCC.out, HC0.out], rfl, by first | exact HT.out.fin (w' := wr) (Ext.refl _) HPV.out rfl (by simp) | exact (HT.out.fin (w' := wr) (Ext.refl _) HPV.out rfl (by simp)).later (Below.drew (Ext.refl _)) | exact (HT.out.fin (w' := wr) (Ext.refl _) HPV.out rfl (by simp)).later (below_drewN (Ext.refl _) _)⟩
        · skip
          have HPV := Lib.hid hpv
          clear hpv
          go_wp2_with fail
          have HSF := Lib.hid (still_of (HFF.out wr.drew (Below.drew (Ext.refl _))))
          have cO' : wr.drew.cell? ⟨O, 0, none⟩ = some (.slice (some ⟨D, 0, none⟩) l.length l.length) := cO
          have cA' : wr.drew.cell? ⟨A, 0, none⟩ = some (.int .i64 (j : Int)) := cA
          refine region_tail 9 (by kernel_rfl) (by kernel_rfl) ?_
          generalize hWd : wr.drew = Wd at *
          have HWD := Lib.hid hWd
          clear hWd
          simp only [List.take_succ_cons, List.take_zero, List.drop_succ_cons, List.drop_zero]
          iterate 3 still_step
          still_call HSF.out
          iterate 5 still_step
          refine wpStill_nil ?_
          rw [← HWD.out]
          go_wp2_with fail
          go_roundg j
          case measure => have := HGI.out; omega
          case rel => exact ⟨j, _, rfl, by omega, by rw [HCC.out, HC0.out], rfl, by first | exact HT.out.fin (w' := wr) (Ext.refl _) HPV.out rfl (by simp) | exact (HT.out.fin (w' := wr) (Ext.refl _) HPV.out rfl (by simp)).later (Below.drew (Ext.refl _)) | exact (HT.out.fin (w' := wr) (Ext.refl _) HPV.out rfl (by simp)).later (below_drewN (Ext.refl _) _)⟩
      · -- ahead
        have hah : aheadB k = true := by simp [aheadB, hk14, hf2]
        have HPV := Lib.hid (HTA.out.ah hah)
        have hcc : cn1 = cn0 + 1 := by have := HCL.out; rw [hah] at this; exact this
        subst hcc
        have hb13 : (k == 13) = false := by rw [beq_eq_false_iff_ne]; omega
        have hb11 : (k == 11) = false := by rw [beq_eq_false_iff_ne]; omega
        have hb12 : (k == 12) = false := by rw [beq_eq_false_iff_ne]; omega
        have hb10 : (k == 10) = false := by rw [beq_eq_false_iff_ne]; omega
        have hb8 : (k == 8) = false := by rw [beq_eq_false_iff_ne]; omega
        have hb9 : (k == 9) = false := by rw [beq_eq_false_iff_ne]; omega
        have hcn6 : cn0 ≤ 6 := by have := cntA_take_le l j; have := HC0.out; have := HCN.out; omega
        clear hf3 hf4 HF1 HF2 hah
        have hbt := bit_shr c cn0 hc64
        have hpv := HPV.out
        rw [HC0.out] at hpv
        have HPV := Lib.hid hpv
        clear hpv
        go_wp2_with fail
        go_region
        all_goals
          go_wp2_with fail
          go_roundg j
          case measure => have := HGI.out; omega
          case rel => exact ⟨j, _, rfl, by omega, by rw [HC0.out], rfl, by first | exact HT.out.fin (w' := wr) (Ext.refl _) HPV.out rfl (by simp) | exact (HT.out.fin (w' := wr) (Ext.refl _) HPV.out rfl (by simp)).later (Below.drew (Ext.refl _)) | exact (HT.out.fin (w' := wr) (Ext.refl _) HPV.out rfl (by simp)).later (below_drewN (Ext.refl _) _)⟩

end Go.Proofs.YtbmimdnpchldlaaGreatDoor

namespace Go.Proofs.YtbmimdnpchldlaaGreatDoor
open Go.RowKit

def RawF (raw : List Op2) : Prop := ∀ p, I64 (rawAt raw p).1 ∧ I64 (rawAt raw p).2

def FMade (w : World) (G B : Nat) (ar : Option Addr) (cr : Nat) (raw : List Op2) (vars props : Int) (out : List Op2) (r : Tm × Nat × Nat) (e : Ending) (w' : World) : Prop :=
  e = .returned (.tuple #[]) ∧ Gr w' G B ar cr raw r.2.1 vars props (r.2.2 : Int) (out ++ r.1.flat) ∧ Below B w w'

theorem FMade.mk {w w' : World} {G B : Nat} {ar : Option Addr} {cr : Nat} {raw : List Op2} {vars props : Int} {out out' : List Op2} {r : Tm × Nat × Nat} {e : Ending} {p t : Nat}
    (he : e = .returned (.tuple #[])) (hg : Gr w' G B ar cr raw p vars props (t : Int) out') (hb : Below B w w') (hp : p = r.2.1) (ht : t = r.2.2) (ho : out' = out ++ r.1.flat) : FMade w G B ar cr raw vars props out r e w' := by
  subst hp; subst ho; subst ht; exact ⟨he, hg, hb⟩

section
variable (w : World) (G B : Nat) (ar : Option Addr) (cr : Nat) (raw : List Op2) (p : Nat) (vars props : Int) (t : Nat) (out : List Op2)

set_option maxRecDepth 100000 in
set_option maxHeartbeats 2000000 in
theorem formula_leaf (h : Gr w G B ar cr raw p vars props (t : Int) out) (hraw : RawF raw) (hp : p ≤ 700) (ho : out.length ≤ 700) (hv : 0 < props) (hv2 : props ≤ 1000) (deep : Int) (hm : deep = 0 ∨ 12 ≤ p) :
    Calls Tryz.prog 60 #[.pointer (some ⟨G, 0, none⟩), .int .i64 deep] w (FMade w G B ar cr raw vars props out (fLeaf (rawAt raw p) props, p + 1, t)) := by
  have TK := Lib.hid (take_any w G B ar cr raw p vars props t out h (by omega))
  have hBw : B ≤ w.heap.size := by have := World.block_lt_of_cell? _ _ h.c0; have := h.new; simp at *; omega
  have hr := hraw p
  generalize rawAt raw p = r at *
  obtain ⟨⟨r1, r2⟩, r3, r4⟩ := hr
  have hfl : (fLeaf r props).flat = [(13, pk r.2 props)] := by unfold fLeaf; rw [if_pos hv]; rfl
  have HFL := Lib.hid hfl
  have HPK := Lib.hid (picked_any r.1 16 · r1 r2 (by omega) (by omega))
  have HPL := Lib.hid (picked_any r.1 4 · r1 r2 (by omega) (by omega))
  have HS := Lib.hid (fun wx : World => still_of (picked_any r.2 props wx r3 r4 hv (by omega)))
  obtain ⟨k0, hk0⟩ : ∃ k, k = pk r.1 16 := ⟨_, rfl⟩
  obtain ⟨kk, hkk⟩ : ∃ k, k = pk r.1 4 := ⟨_, rfl⟩
  have hkb := pk_bd r.1 4 (by omega)
  rw [← hkk] at hkb HPL
  rw [← hk0] at HPK
  obtain ⟨hk1, hk2⟩ := hkb
  have hk8 : ¬ (8 : Int) < kk := by omega
  have hpI : (12 : Int) < (p : Int) + 1 ∨ deep = 0 := by omega
  clear hk0 hkk hfl
  obtain ⟨b0, hb0, hb1⟩ : ∃ b : Bool, (deep == 0) = b ∧ (b = true ∨ (12 : Int) < (p : Int) + 1) := by
    refine ⟨_, rfl, ?_⟩
    rcases hpI with h | h
    · exact .inr h
    · left; rw [h]; rfl
  clear hpI hm
  cases b0
  case' false => replace hb1 : (12 : Int) < (p : Int) + 1 := by simpa using hb1
  all_goals
    go_enter Tryz.func60, Tryz.ntmps60
    go_wp2_with fail
    refine TK.out.mono ?_
    rintro e w1 ⟨rfl, g1, b1⟩
    have hg1 := g1.ext ((Ext.refl w1).alloc (Nat.le_refl _) (Obj.cells #[.int .i64 r.1, .int .i64 r.2] 163))
    have hb2 : Below B w (w1.alloc (Obj.cells #[.int .i64 r.1, .int .i64 r.2] 163)) := b1.alloc (by have := b1.size; omega) _
    have q0 : (w1.alloc (Obj.cells #[.int .i64 r.1, .int .i64 r.2] 163)).cell? ⟨w1.heap.size, 0, none⟩ = some (.int .i64 r.1) := by simp [go_sem]
    have q1 : (w1.alloc (Obj.cells #[.int .i64 r.1, .int .i64 r.2] 163)).cell? ⟨w1.heap.size, 1, none⟩ = some (.int .i64 r.2) := by simp [go_sem]
    have c1 := hg1.c1
    have c3 := hg1.c3
    have HG1 := Lib.hid hg1
    have HB2 := Lib.hid hb2
    clear TK g1 b1 hg1 hb2
    go_wp2_with fail
    refine (HPK.out _).mono ?_
    rintro e w' ⟨rfl, rfl⟩
    go_wp2_with fail
    refine (HPL.out _).mono ?_
    rintro e w' ⟨rfl, rfl⟩
    go_wp2_with fail
    refine region_tail 8 (by kernel_rfl) (by kernel_rfl) ?_
    generalize (w1.alloc (Obj.cells #[.int .i64 r.1, .int .i64 r.2] 163)) = W at *
    have hg1' := HG1.out.ext (Below.drew (Ext.refl W))
    have hb1' := HB2.out.drew
    have q1' : W.drew.cell? ⟨w1.heap.size, 1, none⟩ = some (.int .i64 r.2) := q1
    have c3' : W.drew.cell? ⟨G, 3, none⟩ = some (.int .i64 props) := c3
    have HG1' := Lib.hid hg1'
    have HB1' := Lib.hid hb1'
    clear HG1 HB2 q0 q1 c1 c3 hg1' hb1'
    generalize W.drew = Wd at *
    simp only [List.take_succ_cons, List.take_zero, List.drop_succ_cons, List.drop_zero]
    iterate 7 still_step
    still_call (HS.out Wd)
    refine wpStill_nil ?_
    go_wp2_with fail
    refine (put_op _ G B ar cr raw (p + 1) vars props t out _ _ HG1'.out (by omega)).mono ?_
    rintro e w2 ⟨rfl, hg2, hb2⟩
    have HG2 := Lib.hid hg2
    have HB3 := Lib.hid (HB1'.out.trans hb2)
    clear hg2 hb2
    go_wp2
    go_end0
    exact FMade.mk rfl HG2.out HB3.out rfl rfl (by rw [HFL.out])
end

end Go.Proofs.YtbmimdnpchldlaaGreatDoor

namespace Go.Proofs.YtbmimdnpchldlaaGreatDoor
open Go.RowKit

section
variable (w : World) (G B : Nat) (ar : Option Addr) (cr : Nat) (raw : List Op2) (p : Nat) (vars props : Int) (t : Nat) (out : List Op2)


set_option maxRecDepth 100000 in
set_option maxHeartbeats 2000000 in
theorem formula_not (h : Gr w G B ar cr raw p vars props (t : Int) out) (hraw : RawF raw) (d : Nat) (hd : d ≤ 5) (hp12 : p < 12) (ho : out.length + 100 * (d + 1) ≤ 700) (htb : t ≤ 1000) (kk : Int) (hsel : pk (rawAt raw p).1 16 = kk) (hk4 : 4 ≤ kk) (hk6 : kk < 6)
    (ih : ∀ (w : World) (p : Nat) (t : Nat) (out : List Op2), Gr w G B ar cr raw p vars props (t : Int) out → p ≤ 14 + d + 30 → out.length + 100 * d ≤ 700 → t ≤ 1000 → Calls Tryz.prog 60 #[.pointer (some ⟨G, 0, none⟩), .int .i64 d] w (FMade w G B ar cr raw vars props out (fT raw props d p t)))
    : Calls Tryz.prog 60 #[.pointer (some ⟨G, 0, none⟩), .int .i64 ((d + 1 : Nat) : Int)] w (FMade w G B ar cr raw vars props out (.n1 10 0 (fT raw props d (p + 1) t).1, (fT raw props d (p + 1) t).2)) := by
  have TK := Lib.hid (take_any w G B ar cr raw p vars props t out h (by omega))
  have hBw : B ≤ w.heap.size := by have := World.block_lt_of_cell? _ _ h.c0; have := h.new; simp at *; omega
  have hr := hraw p
  have hz1 := fT_end raw props d (p + 1) (t)
  have hz2 := fT_size raw props d (p + 1) (t)
  have hz5 := Tm.flat_len (fT raw props d (p + 1) (t)).1
  have ih1 := fun w' out' g h1 h2 => ih w' (p + 1) (t) out' g h1 h2 (by omega)
  have hz6 := fT_cnt raw props d (p + 1) (t)
  generalize fT raw props d (p + 1) (t) = t1 at *
  obtain ⟨tm1, p1, n1⟩ := t1
  simp only at hz1 hz2 hz5 ih1
  have HZ1 := Lib.hid (show p1 ≤ 14 + d + 30 by omega)
  have HZ5 := Lib.hid (show tm1.flat.length ≤ 20 by omega)
  have IH1 := Lib.hid ih1
  clear ih1 hz1 hz2 hz5 hz6 ih
  generalize rawAt raw p = r at *
  obtain ⟨⟨r1, r2⟩, r3, r4⟩ := hr
  have HPK := Lib.hid (picked_any r.1 16 · r1 r2 (by omega) (by omega))
  have hkb := pk_bd r.1 16 (by omega)
  have e0 : ((d : Int) + 1 == 0) = false := by rw [beq_eq_false_iff_ne]; omega
  have e1 : (0 : Int) ≤ d := by omega
  have hpI : ¬ (12 : Int) < (p : Int) + 1 := by omega
  rw [hsel] at HPK hkb
  obtain ⟨hkb1, hkb2⟩ := hkb
  clear hsel
  have hl4 : ¬ kk < 4 := by omega
  have hl8 : ¬ (8 : Int) < kk := by omega
  go_enter Tryz.func60, Tryz.ntmps60
  go_wp2_with fail
  refine TK.out.mono ?_
  rintro e w1 ⟨rfl, g1, b1⟩
  have hg1 := g1.ext ((Ext.refl w1).alloc (Nat.le_refl _) (Obj.cells #[.int .i64 r.1, .int .i64 r.2] 163))
  have hb2 : Below B w (w1.alloc (Obj.cells #[.int .i64 r.1, .int .i64 r.2] 163)) := b1.alloc (by have := b1.size; omega) _
  have q0 : (w1.alloc (Obj.cells #[.int .i64 r.1, .int .i64 r.2] 163)).cell? ⟨w1.heap.size, 0, none⟩ = some (.int .i64 r.1) := by simp [go_sem]
  have q1 : (w1.alloc (Obj.cells #[.int .i64 r.1, .int .i64 r.2] 163)).cell? ⟨w1.heap.size, 1, none⟩ = some (.int .i64 r.2) := by simp [go_sem]
  have c1 := hg1.c1
  have c3 := hg1.c3
  have c4 := hg1.c4
  have f4 := hg1.fz 4
  have HG1 := Lib.hid hg1
  have HB2 := Lib.hid hb2
  clear TK g1 b1 hg1 hb2
  go_wp2_with fail
  refine (HPK.out _).mono ?_
  rintro e w' ⟨rfl, rfl⟩
  go_wp2_with fail
  refine (put_op _ G B ar cr raw (p + 1) vars props t out _ _ HG1.out (by omega)).mono ?_
  rintro e w2 ⟨rfl, hg2, hb3⟩
  have HG2 := Lib.hid hg2
  have HB3 := Lib.hid (HB2.out.trans hb3)
  clear hg2 hb3
  go_wp2_with fail
  refine (IH1.out w2 _ HG2.out (by omega) (by simp; omega)).mono ?_
  rintro e w3 ⟨rfl, hg3, hb4⟩
  have HG3 := Lib.hid hg3
  have HB4 := Lib.hid (HB3.out.trans hb4)
  clear hg3 hb4 HG2 HB3
  go_wp2
  go_end0
  exact FMade.mk rfl HG3.out HB4.out rfl rfl (by simp [Tm.flat])

set_option maxRecDepth 100000 in
set_option maxHeartbeats 2000000 in
theorem formula_bin (h : Gr w G B ar cr raw p vars props (t : Int) out) (hraw : RawF raw) (d : Nat) (hd : d ≤ 5) (hp12 : p < 12) (ho : out.length + 100 * (d + 1) ≤ 700) (htb : t ≤ 1000) (kk : Int) (hsel : pk (rawAt raw p).1 16 = kk) (hk6 : 6 ≤ kk) (hk9 : kk < 9)
    (ih : ∀ (w : World) (p : Nat) (t : Nat) (out : List Op2), Gr w G B ar cr raw p vars props (t : Int) out → p ≤ 14 + d + 30 → out.length + 100 * d ≤ 700 → t ≤ 1000 → Calls Tryz.prog 60 #[.pointer (some ⟨G, 0, none⟩), .int .i64 d] w (FMade w G B ar cr raw vars props out (fT raw props d p t)))
    : Calls Tryz.prog 60 #[.pointer (some ⟨G, 0, none⟩), .int .i64 ((d + 1 : Nat) : Int)] w (FMade w G B ar cr raw vars props out (.n2 (8 + kk % 2) 0 (fT raw props d (p + 1) t).1 (fT raw props d (fT raw props d (p + 1) t).2.1 (fT raw props d (p + 1) t).2.2).1, (fT raw props d (fT raw props d (p + 1) t).2.1 (fT raw props d (p + 1) t).2.2).2)) := by
  have TK := Lib.hid (take_any w G B ar cr raw p vars props t out h (by omega))
  have hBw : B ≤ w.heap.size := by have := World.block_lt_of_cell? _ _ h.c0; have := h.new; simp at *; omega
  have hr := hraw p
  have hz1 := fT_end raw props d (p + 1) (t)
  have hz2 := fT_size raw props d (p + 1) (t)
  have hz5 := Tm.flat_len (fT raw props d (p + 1) (t)).1
  have ih1 := fun w' out' g h1 h2 => ih w' (p + 1) (t) out' g h1 h2 (by omega)
  have hz6 := fT_cnt raw props d (p + 1) (t)
  have ih2 := fun w' out' g h1 h2 => ih w' (fT raw props d (p + 1) (t)).2.1 (fT raw props d (p + 1) (t)).2.2 out' g h1 h2 (by omega)
  generalize fT raw props d (p + 1) (t) = t1 at *
  generalize fT raw props d t1.2.1 t1.2.2 = t2 at *
  obtain ⟨tm1, p1, n1⟩ := t1
  obtain ⟨tm2, p2, n2⟩ := t2
  simp only at hz1 hz2 hz5 ih1 ih2
  have IH2 := Lib.hid ih2
  clear ih2
  have HZ1 := Lib.hid (show p1 ≤ 14 + d + 30 by omega)
  have HZ5 := Lib.hid (show tm1.flat.length ≤ 20 by omega)
  have IH1 := Lib.hid ih1
  clear ih1 hz1 hz2 hz5 hz6 ih
  generalize rawAt raw p = r at *
  obtain ⟨⟨r1, r2⟩, r3, r4⟩ := hr
  have HPK := Lib.hid (picked_any r.1 16 · r1 r2 (by omega) (by omega))
  have hkb := pk_bd r.1 16 (by omega)
  have e0 : ((d : Int) + 1 == 0) = false := by rw [beq_eq_false_iff_ne]; omega
  have e1 : (0 : Int) ≤ d := by omega
  have hpI : ¬ (12 : Int) < (p : Int) + 1 := by omega
  rw [hsel] at HPK hkb
  obtain ⟨hkb1, hkb2⟩ := hkb
  clear hsel
  have hl4 : ¬ kk < 4 := by omega
  have hl6 : ¬ kk < 6 := by omega
  have hl8 : ¬ (8 : Int) < kk := by omega
  have hm2 : kk.tmod 2 = kk % 2 := Int.tmod_eq_emod_of_nonneg (by omega)
  have hw2 : IntKind.i64.wrap ((8 : Int) + kk % 2) = 8 + kk % 2 := IntWalk.i64_in _ (by omega)
  go_enter Tryz.func60, Tryz.ntmps60
  go_wp2_with fail
  refine TK.out.mono ?_
  rintro e w1 ⟨rfl, g1, b1⟩
  have hg1 := g1.ext ((Ext.refl w1).alloc (Nat.le_refl _) (Obj.cells #[.int .i64 r.1, .int .i64 r.2] 163))
  have hb2 : Below B w (w1.alloc (Obj.cells #[.int .i64 r.1, .int .i64 r.2] 163)) := b1.alloc (by have := b1.size; omega) _
  have q0 : (w1.alloc (Obj.cells #[.int .i64 r.1, .int .i64 r.2] 163)).cell? ⟨w1.heap.size, 0, none⟩ = some (.int .i64 r.1) := by simp [go_sem]
  have q1 : (w1.alloc (Obj.cells #[.int .i64 r.1, .int .i64 r.2] 163)).cell? ⟨w1.heap.size, 1, none⟩ = some (.int .i64 r.2) := by simp [go_sem]
  have c1 := hg1.c1
  have c3 := hg1.c3
  have c4 := hg1.c4
  have f4 := hg1.fz 4
  have HG1 := Lib.hid hg1
  have HB2 := Lib.hid hb2
  clear TK g1 b1 hg1 hb2
  go_wp2_with fail
  refine (HPK.out _).mono ?_
  rintro e w' ⟨rfl, rfl⟩
  go_wp2_with fail
  refine (put_op _ G B ar cr raw (p + 1) vars props t out _ _ HG1.out (by omega)).mono ?_
  rintro e w2 ⟨rfl, hg2, hb3⟩
  have HG2 := Lib.hid hg2
  have HB3 := Lib.hid (HB2.out.trans hb3)
  clear hg2 hb3
  go_wp2_with fail
  refine (IH1.out w2 _ HG2.out (by omega) (by simp; omega)).mono ?_
  rintro e w3 ⟨rfl, hg3, hb4⟩
  have HG3 := Lib.hid hg3
  have HB4 := Lib.hid (HB3.out.trans hb4)
  clear hg3 hb4 HG2 HB3
  go_wp2_with fail
  refine (IH2.out w3 _ HG3.out HZ1.out (by have := HZ5.out; simp at this ⊢; omega)).mono ?_
  rintro e w4 ⟨rfl, hg4, hb5⟩
  have HG4 := Lib.hid hg4
  have HB5 := Lib.hid (HB4.out.trans hb5)
  clear hg4 hb5 HG3 HB4
  go_wp2
  go_end0
  exact FMade.mk rfl HG4.out HB5.out rfl rfl (by simp [Tm.flat])

set_option maxRecDepth 100000 in
set_option maxHeartbeats 2000000 in
theorem formula_nots (h : Gr w G B ar cr raw p vars props (t : Int) out) (hraw : RawF raw) (d : Nat) (hd : d ≤ 5) (hp12 : p < 12) (ho : out.length + 100 * (d + 1) ≤ 700) (htb : t ≤ 1000) (kk : Int) (k0 : Int) (hk0 : pk (rawAt raw p).1 16 = k0) (h8 : 8 < k0) (ht0 : t = 0) (hsel : 4 + k0 % 5 = kk) (hk4 : 4 ≤ kk) (hk6 : kk < 6)
    (ih : ∀ (w : World) (p : Nat) (t : Nat) (out : List Op2), Gr w G B ar cr raw p vars props (t : Int) out → p ≤ 14 + d + 30 → out.length + 100 * d ≤ 700 → t ≤ 1000 → Calls Tryz.prog 60 #[.pointer (some ⟨G, 0, none⟩), .int .i64 d] w (FMade w G B ar cr raw vars props out (fT raw props d p t)))
    : Calls Tryz.prog 60 #[.pointer (some ⟨G, 0, none⟩), .int .i64 ((d + 1 : Nat) : Int)] w (FMade w G B ar cr raw vars props out (.n1 10 0 (fT raw props d (p + 1) t).1, (fT raw props d (p + 1) t).2)) := by
  have TK := Lib.hid (take_any w G B ar cr raw p vars props t out h (by omega))
  have hBw : B ≤ w.heap.size := by have := World.block_lt_of_cell? _ _ h.c0; have := h.new; simp at *; omega
  have hr := hraw p
  have hz1 := fT_end raw props d (p + 1) (t)
  have hz2 := fT_size raw props d (p + 1) (t)
  have hz5 := Tm.flat_len (fT raw props d (p + 1) (t)).1
  have ih1 := fun w' out' g h1 h2 => ih w' (p + 1) (t) out' g h1 h2 (by omega)
  have hz6 := fT_cnt raw props d (p + 1) (t)
  generalize fT raw props d (p + 1) (t) = t1 at *
  obtain ⟨tm1, p1, n1⟩ := t1
  simp only at hz1 hz2 hz5 ih1
  have HZ1 := Lib.hid (show p1 ≤ 14 + d + 30 by omega)
  have HZ5 := Lib.hid (show tm1.flat.length ≤ 20 by omega)
  have IH1 := Lib.hid ih1
  clear ih1 hz1 hz2 hz5 hz6 ih
  generalize rawAt raw p = r at *
  obtain ⟨⟨r1, r2⟩, r3, r4⟩ := hr
  have HPK := Lib.hid (picked_any r.1 16 · r1 r2 (by omega) (by omega))
  have hkb := pk_bd r.1 16 (by omega)
  have e0 : ((d : Int) + 1 == 0) = false := by rw [beq_eq_false_iff_ne]; omega
  have e1 : (0 : Int) ≤ d := by omega
  have hpI : ¬ (12 : Int) < (p : Int) + 1 := by omega
  rw [hk0] at HPK hkb
  obtain ⟨hkb1, hkb2⟩ := hkb
  have hm5 : k0.tmod 5 = k0 % 5 := Int.tmod_eq_emod_of_nonneg hkb1
  have hs5 : (4 : Int) + k0 % 5 = kk := hsel
  have hw5 : IntKind.i64.wrap ((4 : Int) + k0 % 5) = kk := by rw [hs5]; exact IntWalk.i64_in _ (by omega)
  clear hk0 hsel
  have hl4 : ¬ kk < 4 := by omega
  have hl8 : (8 : Int) < k0 := by omega
  have htI : ((t : Int) == 0) = true := by rw [ht0]; rfl
  have HT0 := Lib.hid ht0
  clear ht0
  go_enter Tryz.func60, Tryz.ntmps60
  go_wp2_with fail
  refine TK.out.mono ?_
  rintro e w1 ⟨rfl, g1, b1⟩
  have hg1 := g1.ext ((Ext.refl w1).alloc (Nat.le_refl _) (Obj.cells #[.int .i64 r.1, .int .i64 r.2] 163))
  have hb2 : Below B w (w1.alloc (Obj.cells #[.int .i64 r.1, .int .i64 r.2] 163)) := b1.alloc (by have := b1.size; omega) _
  have q0 : (w1.alloc (Obj.cells #[.int .i64 r.1, .int .i64 r.2] 163)).cell? ⟨w1.heap.size, 0, none⟩ = some (.int .i64 r.1) := by simp [go_sem]
  have q1 : (w1.alloc (Obj.cells #[.int .i64 r.1, .int .i64 r.2] 163)).cell? ⟨w1.heap.size, 1, none⟩ = some (.int .i64 r.2) := by simp [go_sem]
  have c1 := hg1.c1
  have c3 := hg1.c3
  have c4 := hg1.c4
  have f4 := hg1.fz 4
  have HG1 := Lib.hid hg1
  have HB2 := Lib.hid hb2
  clear TK g1 b1 hg1 hb2
  go_wp2_with fail
  refine (HPK.out _).mono ?_
  rintro e w' ⟨rfl, rfl⟩
  go_wp2_with fail
  refine (put_op _ G B ar cr raw (p + 1) vars props t out _ _ HG1.out (by omega)).mono ?_
  rintro e w2 ⟨rfl, hg2, hb3⟩
  have HG2 := Lib.hid hg2
  have HB3 := Lib.hid (HB2.out.trans hb3)
  clear hg2 hb3
  go_wp2_with fail
  refine (IH1.out w2 _ HG2.out (by omega) (by simp; omega)).mono ?_
  rintro e w3 ⟨rfl, hg3, hb4⟩
  have HG3 := Lib.hid hg3
  have HB4 := Lib.hid (HB3.out.trans hb4)
  clear hg3 hb4 HG2 HB3
  go_wp2
  go_end0
  exact FMade.mk rfl HG3.out HB4.out rfl rfl (by simp [Tm.flat])

set_option maxRecDepth 100000 in
set_option maxHeartbeats 2000000 in
theorem formula_bins (h : Gr w G B ar cr raw p vars props (t : Int) out) (hraw : RawF raw) (d : Nat) (hd : d ≤ 5) (hp12 : p < 12) (ho : out.length + 100 * (d + 1) ≤ 700) (htb : t ≤ 1000) (kk : Int) (k0 : Int) (hk0 : pk (rawAt raw p).1 16 = k0) (h8 : 8 < k0) (ht0 : t = 0) (hsel : 4 + k0 % 5 = kk) (hk6 : 6 ≤ kk) (hk9 : kk < 9)
    (ih : ∀ (w : World) (p : Nat) (t : Nat) (out : List Op2), Gr w G B ar cr raw p vars props (t : Int) out → p ≤ 14 + d + 30 → out.length + 100 * d ≤ 700 → t ≤ 1000 → Calls Tryz.prog 60 #[.pointer (some ⟨G, 0, none⟩), .int .i64 d] w (FMade w G B ar cr raw vars props out (fT raw props d p t)))
    : Calls Tryz.prog 60 #[.pointer (some ⟨G, 0, none⟩), .int .i64 ((d + 1 : Nat) : Int)] w (FMade w G B ar cr raw vars props out (.n2 (8 + kk % 2) 0 (fT raw props d (p + 1) t).1 (fT raw props d (fT raw props d (p + 1) t).2.1 (fT raw props d (p + 1) t).2.2).1, (fT raw props d (fT raw props d (p + 1) t).2.1 (fT raw props d (p + 1) t).2.2).2)) := by
  have TK := Lib.hid (take_any w G B ar cr raw p vars props t out h (by omega))
  have hBw : B ≤ w.heap.size := by have := World.block_lt_of_cell? _ _ h.c0; have := h.new; simp at *; omega
  have hr := hraw p
  have hz1 := fT_end raw props d (p + 1) (t)
  have hz2 := fT_size raw props d (p + 1) (t)
  have hz5 := Tm.flat_len (fT raw props d (p + 1) (t)).1
  have ih1 := fun w' out' g h1 h2 => ih w' (p + 1) (t) out' g h1 h2 (by omega)
  have hz6 := fT_cnt raw props d (p + 1) (t)
  have ih2 := fun w' out' g h1 h2 => ih w' (fT raw props d (p + 1) (t)).2.1 (fT raw props d (p + 1) (t)).2.2 out' g h1 h2 (by omega)
  generalize fT raw props d (p + 1) (t) = t1 at *
  generalize fT raw props d t1.2.1 t1.2.2 = t2 at *
  obtain ⟨tm1, p1, n1⟩ := t1
  obtain ⟨tm2, p2, n2⟩ := t2
  simp only at hz1 hz2 hz5 ih1 ih2
  have IH2 := Lib.hid ih2
  clear ih2
  have HZ1 := Lib.hid (show p1 ≤ 14 + d + 30 by omega)
  have HZ5 := Lib.hid (show tm1.flat.length ≤ 20 by omega)
  have IH1 := Lib.hid ih1
  clear ih1 hz1 hz2 hz5 hz6 ih
  generalize rawAt raw p = r at *
  obtain ⟨⟨r1, r2⟩, r3, r4⟩ := hr
  have HPK := Lib.hid (picked_any r.1 16 · r1 r2 (by omega) (by omega))
  have hkb := pk_bd r.1 16 (by omega)
  have e0 : ((d : Int) + 1 == 0) = false := by rw [beq_eq_false_iff_ne]; omega
  have e1 : (0 : Int) ≤ d := by omega
  have hpI : ¬ (12 : Int) < (p : Int) + 1 := by omega
  rw [hk0] at HPK hkb
  obtain ⟨hkb1, hkb2⟩ := hkb
  have hm5 : k0.tmod 5 = k0 % 5 := Int.tmod_eq_emod_of_nonneg hkb1
  have hs5 : (4 : Int) + k0 % 5 = kk := hsel
  have hw5 : IntKind.i64.wrap ((4 : Int) + k0 % 5) = kk := by rw [hs5]; exact IntWalk.i64_in _ (by omega)
  clear hk0 hsel
  have hl4 : ¬ kk < 4 := by omega
  have hl6 : ¬ kk < 6 := by omega
  have hl8 : (8 : Int) < k0 := by omega
  have htI : ((t : Int) == 0) = true := by rw [ht0]; rfl
  have HT0 := Lib.hid ht0
  clear ht0
  have hm2 : kk.tmod 2 = kk % 2 := Int.tmod_eq_emod_of_nonneg (by omega)
  have hw2 : IntKind.i64.wrap ((8 : Int) + kk % 2) = 8 + kk % 2 := IntWalk.i64_in _ (by omega)
  go_enter Tryz.func60, Tryz.ntmps60
  go_wp2_with fail
  refine TK.out.mono ?_
  rintro e w1 ⟨rfl, g1, b1⟩
  have hg1 := g1.ext ((Ext.refl w1).alloc (Nat.le_refl _) (Obj.cells #[.int .i64 r.1, .int .i64 r.2] 163))
  have hb2 : Below B w (w1.alloc (Obj.cells #[.int .i64 r.1, .int .i64 r.2] 163)) := b1.alloc (by have := b1.size; omega) _
  have q0 : (w1.alloc (Obj.cells #[.int .i64 r.1, .int .i64 r.2] 163)).cell? ⟨w1.heap.size, 0, none⟩ = some (.int .i64 r.1) := by simp [go_sem]
  have q1 : (w1.alloc (Obj.cells #[.int .i64 r.1, .int .i64 r.2] 163)).cell? ⟨w1.heap.size, 1, none⟩ = some (.int .i64 r.2) := by simp [go_sem]
  have c1 := hg1.c1
  have c3 := hg1.c3
  have c4 := hg1.c4
  have f4 := hg1.fz 4
  have HG1 := Lib.hid hg1
  have HB2 := Lib.hid hb2
  clear TK g1 b1 hg1 hb2
  go_wp2_with fail
  refine (HPK.out _).mono ?_
  rintro e w' ⟨rfl, rfl⟩
  go_wp2_with fail
  refine (put_op _ G B ar cr raw (p + 1) vars props t out _ _ HG1.out (by omega)).mono ?_
  rintro e w2 ⟨rfl, hg2, hb3⟩
  have HG2 := Lib.hid hg2
  have HB3 := Lib.hid (HB2.out.trans hb3)
  clear hg2 hb3
  go_wp2_with fail
  refine (IH1.out w2 _ HG2.out (by omega) (by simp; omega)).mono ?_
  rintro e w3 ⟨rfl, hg3, hb4⟩
  have HG3 := Lib.hid hg3
  have HB4 := Lib.hid (HB3.out.trans hb4)
  clear hg3 hb4 HG2 HB3
  go_wp2_with fail
  refine (IH2.out w3 _ HG3.out HZ1.out (by have := HZ5.out; simp at this ⊢; omega)).mono ?_
  rintro e w4 ⟨rfl, hg4, hb5⟩
  have HG4 := Lib.hid hg4
  have HB5 := Lib.hid (HB4.out.trans hb5)
  clear hg4 hb5 HG3 HB4
  go_wp2
  go_end0
  exact FMade.mk rfl HG4.out HB5.out rfl rfl (by simp [Tm.flat])

set_option maxRecDepth 100000 in
set_option maxHeartbeats 2000000 in
theorem formula_leafB (h : Gr w G B ar cr raw p vars props (t : Int) out) (hraw : RawF raw) (d : Nat) (hd : d ≤ 5) (hp12 : p < 12) (ho : out.length + 100 * (d + 1) ≤ 700) (hv : 0 < props) (hv2 : props ≤ 1000) (kk : Int) (hsel : pk (rawAt raw p).1 16 = kk) (hk4 : kk < 4)
    : Calls Tryz.prog 60 #[.pointer (some ⟨G, 0, none⟩), .int .i64 ((d + 1 : Nat) : Int)] w (FMade w G B ar cr raw vars props out (fLeaf (rawAt raw p) props, p + 1, t)) := by
  have TK := Lib.hid (take_any w G B ar cr raw p vars props t out h (by omega))
  have hBw : B ≤ w.heap.size := by have := World.block_lt_of_cell? _ _ h.c0; have := h.new; simp at *; omega
  have hr := hraw p
  generalize rawAt raw p = r at *
  obtain ⟨⟨r1, r2⟩, r3, r4⟩ := hr
  have HPK := Lib.hid (picked_any r.1 16 · r1 r2 (by omega) (by omega))
  have hkb := pk_bd r.1 16 (by omega)
  have e0 : ((d : Int) + 1 == 0) = false := by rw [beq_eq_false_iff_ne]; omega
  have e1 : (0 : Int) ≤ d := by omega
  have hpI : ¬ (12 : Int) < (p : Int) + 1 := by omega
  rw [hsel] at HPK hkb
  obtain ⟨hkb1, hkb2⟩ := hkb
  clear hsel
  have hl8 : ¬ (8 : Int) < kk := by omega
  have hfl : (fLeaf r props).flat = [(13, pk r.2 props)] := by unfold fLeaf; rw [if_pos hv]; rfl
  have HFL := Lib.hid hfl
  have HS := Lib.hid (fun wx : World => still_of (picked_any r.2 props wx r3 r4 hv (by omega)))
  clear hfl
  go_enter Tryz.func60, Tryz.ntmps60
  go_wp2_with fail
  refine TK.out.mono ?_
  rintro e w1 ⟨rfl, g1, b1⟩
  have hg1 := g1.ext ((Ext.refl w1).alloc (Nat.le_refl _) (Obj.cells #[.int .i64 r.1, .int .i64 r.2] 163))
  have hb2 : Below B w (w1.alloc (Obj.cells #[.int .i64 r.1, .int .i64 r.2] 163)) := b1.alloc (by have := b1.size; omega) _
  have q0 : (w1.alloc (Obj.cells #[.int .i64 r.1, .int .i64 r.2] 163)).cell? ⟨w1.heap.size, 0, none⟩ = some (.int .i64 r.1) := by simp [go_sem]
  have q1 : (w1.alloc (Obj.cells #[.int .i64 r.1, .int .i64 r.2] 163)).cell? ⟨w1.heap.size, 1, none⟩ = some (.int .i64 r.2) := by simp [go_sem]
  have c1 := hg1.c1
  have c3 := hg1.c3
  have c4 := hg1.c4
  have f4 := hg1.fz 4
  have HG1 := Lib.hid hg1
  have HB2 := Lib.hid hb2
  clear TK g1 b1 hg1 hb2
  go_wp2_with fail
  refine (HPK.out _).mono ?_
  rintro e w' ⟨rfl, rfl⟩
  go_wp2_with fail
  refine region_tail 8 (by kernel_rfl) (by kernel_rfl) ?_
  generalize (w1.alloc (Obj.cells #[.int .i64 r.1, .int .i64 r.2] 163)) = W at *
  have hg1' := HG1.out.ext (Below.drew (Ext.refl W))
  have hb1' := HB2.out.drew
  have q1' : W.drew.cell? ⟨w1.heap.size, 1, none⟩ = some (.int .i64 r.2) := q1
  have c3' : W.drew.cell? ⟨G, 3, none⟩ = some (.int .i64 props) := c3
  have HG1' := Lib.hid hg1'
  have HB1' := Lib.hid hb1'
  clear HG1 HB2 q0 q1 c1 c3 c4 f4 hg1' hb1'
  generalize W.drew = Wd at *
  simp only [List.take_succ_cons, List.take_zero, List.drop_succ_cons, List.drop_zero]
  iterate 7 still_step
  still_call (HS.out Wd)
  refine wpStill_nil ?_
  go_wp2_with fail
  refine (put_op _ G B ar cr raw (p + 1) vars props t out _ _ HG1'.out (by omega)).mono ?_
  rintro e w2 ⟨rfl, hg2, hb3⟩
  have HG2 := Lib.hid hg2
  have HB3 := Lib.hid (HB1'.out.trans hb3)
  clear hg2 hb3
  go_wp2
  go_end0
  exact FMade.mk rfl HG2.out HB3.out rfl rfl (by rw [HFL.out])

set_option maxRecDepth 100000 in
set_option maxHeartbeats 2000000 in
theorem formula_ah2 (h : Gr w G B ar cr raw p vars props (t : Int) out) (hraw : RawF raw) (d : Nat) (hd : d ≤ 5) (hp12 : p < 12) (ho : out.length + 100 * (d + 1) ≤ 700) (htb : t ≤ 1000) (kk : Int) (hsel : pk (rawAt raw p).1 16 = kk) (hk13 : 13 ≤ kk) (ht : t ≠ 0)
    (ih : ∀ (w : World) (p : Nat) (t : Nat) (out : List Op2), Gr w G B ar cr raw p vars props (t : Int) out → p ≤ 14 + d + 30 → out.length + 100 * d ≤ 700 → t ≤ 1000 → Calls Tryz.prog 60 #[.pointer (some ⟨G, 0, none⟩), .int .i64 d] w (FMade w G B ar cr raw vars props out (fT raw props d p t)))
    : Calls Tryz.prog 60 #[.pointer (some ⟨G, 0, none⟩), .int .i64 ((d + 1 : Nat) : Int)] w (FMade w G B ar cr raw vars props out (.n2 (15 + kk % 2) 0 (fT raw props d (p + 1) (t - 1)).1 (fT raw props d (fT raw props d (p + 1) (t - 1)).2.1 (fT raw props d (p + 1) (t - 1)).2.2).1, (fT raw props d (fT raw props d (p + 1) (t - 1)).2.1 (fT raw props d (p + 1) (t - 1)).2.2).2)) := by
  have TK := Lib.hid (take_any w G B ar cr raw p vars props t out h (by omega))
  have hBw : B ≤ w.heap.size := by have := World.block_lt_of_cell? _ _ h.c0; have := h.new; simp at *; omega
  have hr := hraw p
  have hz1 := fT_end raw props d (p + 1) (t - 1)
  have hz2 := fT_size raw props d (p + 1) (t - 1)
  have hz5 := Tm.flat_len (fT raw props d (p + 1) (t - 1)).1
  have ih1 := fun w' out' g h1 h2 => ih w' (p + 1) (t - 1) out' g h1 h2 (by omega)
  have hz6 := fT_cnt raw props d (p + 1) (t - 1)
  have ih2 := fun w' out' g h1 h2 => ih w' (fT raw props d (p + 1) (t - 1)).2.1 (fT raw props d (p + 1) (t - 1)).2.2 out' g h1 h2 (by omega)
  generalize fT raw props d (p + 1) (t - 1) = t1 at *
  generalize fT raw props d t1.2.1 t1.2.2 = t2 at *
  obtain ⟨tm1, p1, n1⟩ := t1
  obtain ⟨tm2, p2, n2⟩ := t2
  simp only at hz1 hz2 hz5 ih1 ih2
  have IH2 := Lib.hid ih2
  clear ih2
  have HZ1 := Lib.hid (show p1 ≤ 14 + d + 30 by omega)
  have HZ5 := Lib.hid (show tm1.flat.length ≤ 20 by omega)
  have IH1 := Lib.hid ih1
  clear ih1 hz1 hz2 hz5 hz6 ih
  generalize rawAt raw p = r at *
  obtain ⟨⟨r1, r2⟩, r3, r4⟩ := hr
  have HPK := Lib.hid (picked_any r.1 16 · r1 r2 (by omega) (by omega))
  have hkb := pk_bd r.1 16 (by omega)
  have e0 : ((d : Int) + 1 == 0) = false := by rw [beq_eq_false_iff_ne]; omega
  have e1 : (0 : Int) ≤ d := by omega
  have hpI : ¬ (12 : Int) < (p : Int) + 1 := by omega
  rw [hsel] at HPK hkb
  obtain ⟨hkb1, hkb2⟩ := hkb
  clear hsel
  have hl4 : ¬ kk < 4 := by omega
  have hl6 : ¬ kk < 6 := by omega
  have hl9 : ¬ kk < 9 := by omega
  have hl8 : (8 : Int) < kk := by omega
  have htI : ((t : Int) == 0) = false := by rw [beq_eq_false_iff_ne]; omega
  have htm : (t : Int) - 1 = ((t - 1 : Nat) : Int) := by omega
  have hwt : IntKind.i64.wrap ((t : Int) - 1) = ((t - 1 : Nat) : Int) := by rw [htm]; exact IntWalk.i64_in _ (by omega)
  have hl13 : ¬ kk < 13 := by omega
  have hm2 : kk.tmod 2 = kk % 2 := Int.tmod_eq_emod_of_nonneg (by omega)
  have hw2 : IntKind.i64.wrap ((15 : Int) + kk % 2) = 15 + kk % 2 := IntWalk.i64_in _ (by omega)
  go_enter Tryz.func60, Tryz.ntmps60
  go_wp2_with fail
  refine TK.out.mono ?_
  rintro e w1 ⟨rfl, g1, b1⟩
  have hg1 := g1.ext ((Ext.refl w1).alloc (Nat.le_refl _) (Obj.cells #[.int .i64 r.1, .int .i64 r.2] 163))
  have hb2 : Below B w (w1.alloc (Obj.cells #[.int .i64 r.1, .int .i64 r.2] 163)) := b1.alloc (by have := b1.size; omega) _
  have q0 : (w1.alloc (Obj.cells #[.int .i64 r.1, .int .i64 r.2] 163)).cell? ⟨w1.heap.size, 0, none⟩ = some (.int .i64 r.1) := by simp [go_sem]
  have q1 : (w1.alloc (Obj.cells #[.int .i64 r.1, .int .i64 r.2] 163)).cell? ⟨w1.heap.size, 1, none⟩ = some (.int .i64 r.2) := by simp [go_sem]
  have c1 := hg1.c1
  have c3 := hg1.c3
  have c4 := hg1.c4
  have f4 := hg1.fz 4
  have HG1 := Lib.hid hg1
  have HB2 := Lib.hid hb2
  clear TK g1 b1 hg1 hb2
  go_wp2_with fail
  refine (HPK.out _).mono ?_
  rintro e w' ⟨rfl, rfl⟩
  have hgt := HG1.out.tempo' ((t - 1 : Nat) : Int)
  have hbt := HB2.out.setCell (p := ⟨G, 4, none⟩) HG1.out.new (.int .i64 ((t - 1 : Nat) : Int))
  have HGT := Lib.hid hgt
  have HBT := Lib.hid hbt
  clear hgt hbt
  go_wp2_with fail
  refine (put_op _ G B ar cr raw (p + 1) vars props ((t - 1 : Nat) : Int) out _ _ HGT.out (by omega)).mono ?_
  rintro e w2 ⟨rfl, hg2, hb3⟩
  have HG2 := Lib.hid hg2
  have HB3 := Lib.hid (HBT.out.trans hb3)
  clear hg2 hb3
  go_wp2_with fail
  refine (IH1.out w2 _ HG2.out (by omega) (by simp; omega)).mono ?_
  rintro e w3 ⟨rfl, hg3, hb4⟩
  have HG3 := Lib.hid hg3
  have HB4 := Lib.hid (HB3.out.trans hb4)
  clear hg3 hb4 HG2 HB3
  go_wp2_with fail
  refine (IH2.out w3 _ HG3.out HZ1.out (by have := HZ5.out; simp at this ⊢; omega)).mono ?_
  rintro e w4 ⟨rfl, hg4, hb5⟩
  have HG4 := Lib.hid hg4
  have HB5 := Lib.hid (HB4.out.trans hb5)
  clear hg4 hb5 HG3 HB4
  go_wp2
  go_end0
  exact FMade.mk rfl HG4.out HB5.out rfl rfl (by simp [Tm.flat])

set_option maxRecDepth 100000 in
set_option maxHeartbeats 2000000 in
theorem formula_ah1 (h : Gr w G B ar cr raw p vars props (t : Int) out) (hraw : RawF raw) (d : Nat) (hd : d ≤ 5) (hp12 : p < 12) (ho : out.length + 100 * (d + 1) ≤ 700) (htb : t ≤ 1000) (kk : Int) (hsel : pk (rawAt raw p).1 16 = kk) (hk9 : 9 ≤ kk) (hk13 : kk < 13) (ht : t ≠ 0)
    (ih : ∀ (w : World) (p : Nat) (t : Nat) (out : List Op2), Gr w G B ar cr raw p vars props (t : Int) out → p ≤ 14 + d + 30 → out.length + 100 * d ≤ 700 → t ≤ 1000 → Calls Tryz.prog 60 #[.pointer (some ⟨G, 0, none⟩), .int .i64 d] w (FMade w G B ar cr raw vars props out (fT raw props d p t)))
    : Calls Tryz.prog 60 #[.pointer (some ⟨G, 0, none⟩), .int .i64 ((d + 1 : Nat) : Int)] w (FMade w G B ar cr raw vars props out (.n1 (aheadK kk) 0 (fT raw props d (p + 1) (t - 1)).1, (fT raw props d (p + 1) (t - 1)).2)) := by
  have TK := Lib.hid (take_any w G B ar cr raw p vars props t out h (by omega))
  have hBw : B ≤ w.heap.size := by have := World.block_lt_of_cell? _ _ h.c0; have := h.new; simp at *; omega
  have hr := hraw p
  have hz1 := fT_end raw props d (p + 1) (t - 1)
  have hz2 := fT_size raw props d (p + 1) (t - 1)
  have hz5 := Tm.flat_len (fT raw props d (p + 1) (t - 1)).1
  have ih1 := fun w' out' g h1 h2 => ih w' (p + 1) (t - 1) out' g h1 h2 (by omega)
  have hz6 := fT_cnt raw props d (p + 1) (t - 1)
  generalize fT raw props d (p + 1) (t - 1) = t1 at *
  obtain ⟨tm1, p1, n1⟩ := t1
  simp only at hz1 hz2 hz5 ih1
  have HZ1 := Lib.hid (show p1 ≤ 14 + d + 30 by omega)
  have HZ5 := Lib.hid (show tm1.flat.length ≤ 20 by omega)
  have IH1 := Lib.hid ih1
  clear ih1 hz1 hz2 hz5 hz6 ih
  generalize rawAt raw p = r at *
  obtain ⟨⟨r1, r2⟩, r3, r4⟩ := hr
  have HPK := Lib.hid (picked_any r.1 16 · r1 r2 (by omega) (by omega))
  have hkb := pk_bd r.1 16 (by omega)
  have e0 : ((d : Int) + 1 == 0) = false := by rw [beq_eq_false_iff_ne]; omega
  have e1 : (0 : Int) ≤ d := by omega
  have hpI : ¬ (12 : Int) < (p : Int) + 1 := by omega
  rw [hsel] at HPK hkb
  obtain ⟨hkb1, hkb2⟩ := hkb
  clear hsel
  have htI : ((t : Int) == 0) = false := by rw [beq_eq_false_iff_ne]; omega
  have htm : (t : Int) - 1 = ((t - 1 : Nat) : Int) := by omega
  have hwt : IntKind.i64.wrap ((t : Int) - 1) = ((t - 1 : Nat) : Int) := by rw [htm]; exact IntWalk.i64_in _ (by omega)
  have hkv : kk = 9 ∨ kk = 10 ∨ kk = 11 ∨ kk = 12 := by omega
  clear hk9 hk13 hkb1 hkb2
  rcases hkv with rfl | rfl | rfl | rfl
  all_goals
    go_enter Tryz.func60, Tryz.ntmps60
    go_wp2_with fail
    refine TK.out.mono ?_
    rintro e w1 ⟨rfl, g1, b1⟩
    have hg1 := g1.ext ((Ext.refl w1).alloc (Nat.le_refl _) (Obj.cells #[.int .i64 r.1, .int .i64 r.2] 163))
    have hb2 : Below B w (w1.alloc (Obj.cells #[.int .i64 r.1, .int .i64 r.2] 163)) := b1.alloc (by have := b1.size; omega) _
    have q0 : (w1.alloc (Obj.cells #[.int .i64 r.1, .int .i64 r.2] 163)).cell? ⟨w1.heap.size, 0, none⟩ = some (.int .i64 r.1) := by simp [go_sem]
    have q1 : (w1.alloc (Obj.cells #[.int .i64 r.1, .int .i64 r.2] 163)).cell? ⟨w1.heap.size, 1, none⟩ = some (.int .i64 r.2) := by simp [go_sem]
    have c1 := hg1.c1
    have c3 := hg1.c3
    have c4 := hg1.c4
    have f4 := hg1.fz 4
    have HG1 := Lib.hid hg1
    have HB2 := Lib.hid hb2
    clear TK g1 b1 hg1 hb2
    go_wp2_with fail
    refine (HPK.out _).mono ?_
    rintro e w' ⟨rfl, rfl⟩
    have hgt := HG1.out.tempo' ((t - 1 : Nat) : Int)
    have hbt := HB2.out.setCell (p := ⟨G, 4, none⟩) HG1.out.new (.int .i64 ((t - 1 : Nat) : Int))
    have HGT := Lib.hid hgt
    have HBT := Lib.hid hbt
    clear hgt hbt
    go_wp2_with fail
    refine (put_op _ G B ar cr raw (p + 1) vars props ((t - 1 : Nat) : Int) out _ _ (HGT.out.ext ((Ext.refl _).alloc (Nat.le_refl _) _)) (by omega)).mono ?_
    rintro e w2 ⟨rfl, hg2, hb3⟩
    have HG2 := Lib.hid hg2
    have HB3 := Lib.hid ((HBT.out.alloc (by have := HBT.out.size; omega) _).trans hb3)
    clear hg2 hb3
    go_wp2_with fail
    refine (IH1.out w2 _ HG2.out (by omega) (by simp; omega)).mono ?_
    rintro e w3 ⟨rfl, hg3, hb4⟩
    have HG3 := Lib.hid hg3
    have HB4 := Lib.hid (HB3.out.trans hb4)
    clear hg3 hb4 HG2 HB3
    go_wp2
    go_end0
    exact FMade.mk rfl HG3.out HB4.out rfl rfl (by simp [Tm.flat, aheadK])

end

end Go.Proofs.YtbmimdnpchldlaaGreatDoor

namespace Go.Proofs.YtbmimdnpchldlaaGreatDoor
open Go.RowKit

theorem formula_any (G B : Nat) (ar : Option Addr) (cr : Nat) (raw : List Op2) (vars props : Int) (hraw : RawF raw) (hv : 0 < props) (hv2 : props ≤ 1000) :
    ∀ (d : Nat), d ≤ 6 → ∀ (w : World) (p t : Nat) (out : List Op2), Gr w G B ar cr raw p vars props (t : Int) out → p ≤ 14 + d + 30 → out.length + 100 * d ≤ 700 → t ≤ 1000 →
    Calls Tryz.prog 60 #[.pointer (some ⟨G, 0, none⟩), .int .i64 d] w (FMade w G B ar cr raw vars props out (fT raw props d p t)) := by
  intro d
  induction d with
  | zero =>
    intro _ w p t out h hp ho _
    exact formula_leaf w G B ar cr raw p vars props t out h hraw (by omega) (by omega) hv hv2 0 (.inl rfl)
  | succ d ih =>
    intro hd w p t out h hp ho ht
    have ih' := ih (by omega)
    have hb := fKind_bd (rawAt raw p) (d + 1) p t
    unfold fT
    by_cases hp12 : p < 12
    · have hk0 : fKind0 (rawAt raw p) (d + 1) p = pk (rawAt raw p).1 16 := by unfold fKind0; rw [if_neg (by omega)]
      by_cases hs : 8 < fKind0 (rawAt raw p) (d + 1) p ∧ t = 0
      · have hk : fKind (rawAt raw p) (d + 1) p t = 4 + fKind0 (rawAt raw p) (d + 1) p % 5 := by unfold fKind; rw [if_pos hs]
        rw [if_neg (by omega)]
        rw [hk0] at hs hk
        split
        · exact formula_nots w G B ar cr raw p vars props t out h hraw d (by omega) hp12 ho ht _ _ rfl hs.1 hs.2 hk.symm (by omega) (by omega) ih'
        · rw [if_pos (by omega)]
          exact formula_bins w G B ar cr raw p vars props t out h hraw d (by omega) hp12 ho ht _ _ rfl hs.1 hs.2 hk.symm (by omega) (by omega) ih'
      · have hk : fKind (rawAt raw p) (d + 1) p t = fKind0 (rawAt raw p) (d + 1) p := by unfold fKind; rw [if_neg hs]
        rw [hk0] at hk
        have ht0 : ¬ fKind (rawAt raw p) (d + 1) p t < 9 → t ≠ 0 := fun h e => h (hb.2.2.2 e)
        split
        · exact formula_leafB w G B ar cr raw p vars props t out h hraw d (by omega) hp12 ho hv hv2 _ hk.symm (by omega)
        · split
          · exact formula_not w G B ar cr raw p vars props t out h hraw d (by omega) hp12 ho ht _ hk.symm (by omega) (by omega) ih'
          · split
            · exact formula_bin w G B ar cr raw p vars props t out h hraw d (by omega) hp12 ho ht _ hk.symm (by omega) (by omega) ih'
            · rename_i h9
              split
              · exact formula_ah1 w G B ar cr raw p vars props t out h hraw d (by omega) hp12 ho ht _ hk.symm (by omega) (by omega) (ht0 h9) ih'
              · exact formula_ah2 w G B ar cr raw p vars props t out h hraw d (by omega) hp12 ho ht _ hk.symm (by omega) (ht0 h9) ih'
    · rw [if_pos (by omega)]
      exact formula_leaf w G B ar cr raw p vars props t out h hraw (by omega) (by omega) hv hv2 ((d + 1 : Nat) : Int) (.inr (by omega))

/-- The formulas that the laws draw. -/
def forO (raw : List Op2) (props : Int) (t : Nat) : Tm := (fT raw props 4 0 t).1

set_option maxRecDepth 100000 in
set_option maxHeartbeats 1000000 in
theorem mkFormula (v : Value) (raw : List Op2) (props : Int) (t : Nat) (w : World) (h : Ops w v raw) (hraw : RawF raw) (hv : 0 < props) (hv2 : props ≤ 1000) (ht : t ≤ 1000) :
    Calls Tryz.prog 34 #[v, .int .i64 props, .int .i64 (t : Int)] w fun e w' => ∃ v', e = .returned v' ∧ w'.ownsRow w.heap.size 75 2 v' (forO raw props t).flat.length ((forO raw props t).flat.flatMap opc) ∧ Ext w w' := by
  obtain ⟨ar, cr, rfl, hr⟩ := h
  have hE : Ext w (w.alloc (Obj.cells #[.slice ar raw.length cr, .int .i64 0, .int .i64 0, .int .i64 props, .int .i64 (t : Int), .slice none 0 0] 127)) := (Ext.refl w).alloc (Nat.le_refl _) _
  have hg : Gr (w.alloc (Obj.cells #[.slice ar raw.length cr, .int .i64 0, .int .i64 0, .int .i64 props, .int .i64 (t : Int), .slice none 0 0] 127)) w.heap.size w.heap.size ar cr raw 0 0 props (t : Int) [] :=
    ⟨by simp [go_sem], by simp [go_sem], by simp [go_sem], by simp [go_sem], by simp [go_sem], ⟨none, 0, by simp [go_sem], World.ownsRow_nil _ _ _ _, by simp [Value.ownBlock]⟩, fun i => by simp [go_sem], hr.ext hE,
      fun q hq hx => by subst hq; exact hr.blk (by rw [opc_len]; omega), Nat.le_refl _⟩
  have HC := Lib.hid (formula_any w.heap.size w.heap.size ar cr raw 0 props hraw hv hv2 4 (by omega) _ 0 t [] hg (by omega) (by simp) ht)
  have hbel := hE
  clear hr
  go_enter Tryz.func34, Tryz.ntmps34
  go_wp2_with fail
  refine HC.out.mono ?_
  rintro e w2 ⟨rfl, g2, b2⟩
  obtain ⟨ao, co, c5, h6, _⟩ := g2.c5
  have H6 := Lib.hid h6
  have HE2 : Hid (Ext w w2) := Below.trans hE b2
  clear h6 g2 b2 hg hE hbel
  go_wp2
  go_ret
  exact ⟨_, rfl, H6.out, HE2.out⟩

end Go.Proofs.YtbmimdnpchldlaaGreatDoor

namespace Go.Proofs.YtbmimdnpchldlaaGreatDoor
open Go.RowKit

set_option maxRecDepth 100000 in
theorem raw_for {W : World} {v : Value} (h : Cells Tryz.prog W 26 [v]) : ∃ raw, Ops W v raw ∧ RawF raw := by
  obtain ⟨a, cap, xss, hv, hr, hx⟩ := h.slice (sz := 2) Tryz.underlying26 (by kernel_rfl)
  have each : ∀ xs ∈ xss, ∃ o : { o : Op2 // I64 o.1 ∧ I64 o.2 }, xs = opc o.val := by
    intro xs hxs
    obtain ⟨hl, hc⟩ := hx xs hxs
    obtain ⟨_, hf⟩ := hc.field Tryz.underlying163
    match xs, hl with
    | [x, y], _ =>
      have c1 : Tryz.prog.cellsOf 3 = 1 := by kernel_rfl
      have f0 : Cells Tryz.prog W 3 [x] := by have := hf 0 _ rfl; simpa [c1] using this
      have f1 : Cells Tryz.prog W 3 [y] := by have := hf 1 _ rfl; simpa [c1] using this
      obtain ⟨m, e0, i0⟩ := Cells.i64 Tryz.underlying3 f0
      obtain ⟨n, e1, i1⟩ := Cells.i64 Tryz.underlying3 f1
      simp at e0 e1
      subst e0; subst e1
      exact ⟨⟨(m, n), i0, i1⟩, rfl⟩
  have build : ∀ yss : List (List Value), (∀ xs ∈ yss, ∃ o : { o : Op2 // I64 o.1 ∧ I64 o.2 }, xs = opc o.val) → ∃ raw : List Op2, yss.length = raw.length ∧ yss.flatten = raw.flatMap opc ∧ ∀ o ∈ raw, I64 o.1 ∧ I64 o.2 := by
    intro yss
    induction yss with
    | nil => intro _; exact ⟨[], rfl, rfl, by simp⟩
    | cons ys yss ih =>
      intro h
      obtain ⟨o, rfl⟩ := h ys (by simp)
      obtain ⟨raw, h1, h2, h3⟩ := ih (fun xs hxs => h xs (by simp [hxs]))
      refine ⟨o.val :: raw, by simp [h1], by simp [h2], ?_⟩
      intro q hq
      rcases List.mem_cons.1 hq with rfl | hq
      · exact o.property
      · exact h3 q hq
  obtain ⟨raw, h1, h2, h3⟩ := build xss each
  simp only [List.cons.injEq, and_true] at hv
  rw [h1, h2] at hr
  refine ⟨raw, ⟨a, cap, by rw [hv, h1], hr⟩, fun p => ?_⟩
  unfold rawAt
  rw [List.getD_eq_getElem?_getD]
  by_cases hp : p < raw.length
  · rw [List.getElem?_eq_getElem hp]; exact h3 _ (by simp)
  · rw [List.getElem?_eq_none (by omega)]; simp [I64]

end Go.Proofs.YtbmimdnpchldlaaGreatDoor

namespace Go.Proofs.YtbmimdnpchldlaaGreatDoor
open Go.RowKit

/-- A value is a task. -/
structure IsTask (w : World) (vv rv pv fv : Value) (m : Md) (P : List Tm) (t : Tm) : Prop where
  md : IsMd w vv rv m
  pr : IsTms w pv P
  fo : IsT w fv t
theorem IsTask.ext {w w' : World} {vv rv pv fv : Value} {m : Md} {P : List Tm} {t : Tm} (h : IsTask w vv rv pv fv m P t) (hE : Ext w w') : IsTask w' vv rv pv fv m P t := ⟨h.md.ext hE, h.pr.ext hE, h.fo.ext hE⟩
/-- .. that may be one. -/
structure TkOk (m : Md) (P : List Tm) (t : Tm) : Prop where
  ok : m.Ok
  v0 : 0 < m.vars.length
  pk : PropsOk m.vars.length P
  ff : IsF t.flat (P.length : Int) t

theorem IsTask.val {w : World} {vv rv pv fv : Value} {m : Md} {P : List Tm} {t : Tm} (h : IsTask w vv rv pv fv m P t) : ∃ av cv ar cr ap cp af nf cf, vv = .slice av m.vars.length cv ∧ rv = .slice ar m.rules.length cr ∧ pv = .slice ap P.length cp ∧ fv = .slice af nf cf := by
  obtain ⟨av, cv, rfl⟩ := EachL.val h.md.vars
  obtain ⟨ar, cr, rfl⟩ := EachL.val h.md.rules
  obtain ⟨ap, cp, rfl⟩ := EachL.val h.pr
  obtain ⟨af, nf, cf, rfl⟩ := h.fo.val
  exact ⟨av, cv, ar, cr, ap, cp, af, nf, cf, rfl, rfl, rfl, rfl⟩

set_option maxRecDepth 100000 in
set_option maxHeartbeats 4000000 in
theorem pcheck_any (vv rv pv fv : Value) (m : Md) (P : List Tm) (t : Tm) (w : World) (h : IsTask w vv rv pv fv m P t) (ht : Tab w) (hk : TkOk m P t) :
    Calls Tryz.prog 47 #[.agg #[vv, rv, pv, fv]] w fun e w' => e = .returned (.int .i64 0) ∧ Ext w w' := by
  have HPR := Lib.hid fun wx (hx : Ext w wx) => props_any vv rv pv m P wx (h.md.ext hx) (ht.ext hx) hk.ok (h.pr.ext hx) hk.pk
  have HLC := Lib.hid fun wx (hx : Ext w wx) => lcheck_ok fv t.flat (P.length : Int) t wx (h.fo.ext hx) (ht.ext hx) hk.ff
  obtain ⟨av, cv, ar, cr, ap, cp, af, nf, cf, rfl, rfl, rfl, rfl⟩ := h.val
  generalize m.vars.length = nv at *
  generalize m.rules.length = nr at *
  generalize P.length = np at *
  clear h ht hk
  have hb := blk_new w (Obj.cells #[.slice av nv cv, .slice ar nr cr, .slice ap np cp, .slice af nf cf] 35)
  have HE := Lib.hid (ext_al (Ext.refl w) (Obj.cells #[.slice av nv cv, .slice ar nr cr, .slice ap np cp, .slice af nf cf] 35))
  have HB := Lib.hid hb
  have d0 := blk_cell hb (i := 0) rfl
  have d1 := blk_cell hb (i := 1) rfl
  have d2 := blk_cell hb (i := 2) rfl
  clear hb
  go_enter Tryz.func47, Tryz.ntmps47
  go_wp2_with fail
  generalize w.alloc (Obj.cells #[.slice av nv cv, .slice ar nr cr, .slice ap np cp, .slice af nf cf] 35) = W1 at *
  refine (HPR.out _ HE.out).mono ?_
  rintro e w2 ⟨rfl, hE2⟩
  have HX2 := Lib.hid (HE.out.trans hE2)
  have d2 := blk_cell (blk_ext HB.out hE2) (i := 2) rfl
  have d3 := blk_cell (blk_ext HB.out hE2) (i := 3) rfl
  clear hE2 d0 d1
  go_wp2_with fail
  refine (HLC.out _ HX2.out).mono ?_
  rintro e w3 ⟨rfl, hE3⟩
  have HX3 := Lib.hid (HX2.out.trans hE3)
  clear hE3
  go_wp2
  go_ret
  exact ⟨rfl, HX3.out⟩

theorem pow_wrap {k : Nat} (h : k ≤ 6) : wrap64 ((2 : Int) ^ k) = ((2 ^ k : Nat) : Int) := by
  have : k = 0 ∨ k = 1 ∨ k = 2 ∨ k = 3 ∨ k = 4 ∨ k = 5 ∨ k = 6 := by omega
  rcases this with rfl | rfl | rfl | rfl | rfl | rfl | rfl <;> simp [wrap64]

set_option maxRecDepth 100000 in
set_option maxHeartbeats 4000000 in
theorem claims_n (vv rv pv fv : Value) (m : Md) (P : List Tm) (t : Tm) (w : World) (h : IsTask w vv rv pv fv m P t) (ht : Tab w) (hk : TkOk m P t) :
    Calls Tryz.prog 74 #[.agg #[vv, rv, pv, fv]] w fun e w' => e = .returned (.int .i64 ((2 ^ cntA t.flat : Nat) : Int)) ∧ Ext w w' := by
  have HPL := Lib.hid fun wx (hx : Ext w wx) => places_any fv t.flat (P.length : Int) t wx (h.fo.ext hx) (ht.ext hx) hk.ff
  have hc6 := hk.ff.cnt
  have hpl := plL_len t.flat
  obtain ⟨av, cv, ar, cr, ap, cp, af, nf, cf, rfl, rfl, rfl, rfl⟩ := h.val
  generalize m.vars.length = nv at *
  generalize m.rules.length = nr at *
  generalize P.length = np at *
  clear h ht hk
  have hb := blk_new w (Obj.cells #[.slice av nv cv, .slice ar nr cr, .slice ap np cp, .slice af nf cf] 35)
  have HE := Lib.hid (ext_al (Ext.refl w) (Obj.cells #[.slice av nv cv, .slice ar nr cr, .slice ap np cp, .slice af nf cf] 35))
  have d2 := blk_cell hb (i := 2) rfl
  have d3 := blk_cell hb (i := 3) rfl
  clear hb
  have HLL := Lib.hid hpl
  clear hpl
  obtain ⟨k, hk⟩ : ∃ k, cntA t.flat = k := ⟨_, rfl⟩
  rw [hk] at hc6 HLL ⊢
  clear hk
  go_enter Tryz.func74, Tryz.ntmps74
  go_wp2_with fail
  generalize w.alloc (Obj.cells #[.slice av nv cv, .slice ar nr cr, .slice ap np cp, .slice af nf cf] 35) = W1 at *
  refine (HPL.out _ HE.out).mono ?_
  rintro e w2 ⟨a2, c2, rfl, ho2, hE2⟩
  have HX2 := Lib.hid (HE.out.trans hE2)
  rw [HLL.out]
  clear hE2 ho2 d2 d3
  have HPW := Lib.hid (pow_wrap hc6)
  go_wp2_with fail
  go_ret
  exact ⟨congrArg (fun z => Ending.returned (.int .i64 z)) HPW.out, HX2.out⟩

end Go.Proofs.YtbmimdnpchldlaaGreatDoor
