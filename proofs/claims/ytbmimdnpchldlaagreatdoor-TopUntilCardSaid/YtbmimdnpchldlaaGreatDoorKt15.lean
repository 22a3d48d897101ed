/- Several texts in one: VerP; VerA; RunP; GrowP; MdT; TopP; FmJ; TopB0; TopB; TopC. No condition. -/
import Derived.Test.YtbmimdnpchldlaaGreatDoorKt14
import Derived.Test.YtbmimdnpchldlaaGreatDoorKt3
import Derived.Test.YtbmimdnpchldlaaGreatDoorKt5
import Derived.Deep.DeepCutAuto
import Derived.Deep.RegionLaw
import Derived.Test.YtbmimdnpchldlaaGreatDoorKt11
import Derived.Test.YtbmimdnpchldlaaGreatDoorKt13
import Derived.Test.YtbmimdnpchldlaaGreatDoorKt7
import Derived.Test.YtbmimdnpchldlaaGreatDoorKt12
import Derived.Deep.RegionHeld3
import Derived.BigQuiet
namespace Go.Proofs.YtbmimdnpchldlaaGreatDoor
open Go.RowKit

/-- A run that goes round: n states, the loop begins at back. -/
structure RunL (m : Md) (n back : Nat) (x : Nat → Int) : Prop where
  hb : back < n
  first : x 0 = m.first
  step : ∀ i, i < n → NextP m (x i) (x (nxt n back i))

/-- Its word. -/
def wdOf (m : Md) (P : List Tm) (n back : Nat) (x : Nat → Int) : Wd := ⟨(List.range n).map fun i => letS P (valsL m.vars (x i)), back⟩
theorem wdOf_n (m : Md) (P : List Tm) (n back : Nat) (x : Nat → Int) : (wdOf m P n back x).n = n := by simp [wdOf, Wd.n]
theorem wdOf_get (m : Md) (P : List Tm) {n back : Nat} (x : Nat → Int) {i : Nat} (hi : i < n) : (wdOf m P n back x).ls.getD i [] = letS P (valsL m.vars (x i)) := by
  simp [wdOf, List.getD, hi]

/-- Each run keeps the formula. -/
def HoldsR (m : Md) (P : List Tm) (t : Tm) : Prop := ∀ n back x, RunL m n back x → Sat (wdOf m P n back x) t 0

section
variable {m : Md} {P : List Tm} {t : Tm} (hk : TkOk m P t) {X : List Sp2} {L : List (List Int)} (hX : XDone (bX m P t) (oX m t) (iX m P t) X L)
include hk hX

theorem init_at {s : Nat} (hs : s < (iX m P t).length) : ∃ c : Nat, X[s]? = some (m.first, (c : Int)) ∧ c < 2 ^ cntA t.flat ∧ (tvT (letS P (valsL m.vars m.first)) c t 0).head?.getD false = false := by
  have _ := hk
  have h1 : X[s]? = (iX m P t)[s]? := by
    rw [← hX.pre, List.getElem?_take, if_pos hs]
  have h2 : (iX m P t)[s]? = some ((iX m P t)[s]) := List.getElem?_eq_getElem hs
  have h3 : (iX m P t)[s] ∈ iX m P t := by simp
  generalize (iX m P t)[s] = y at *
  unfold iX begL at h3
  obtain ⟨c, hc, rfl⟩ := List.mem_map.1 h3
  have h4 := List.mem_filter.1 hc
  refine ⟨c, h1.trans h2, List.mem_range.1 h4.1, ?_⟩
  simpa using h4.2

theorem edge_at {i k : Nat} {x y : Sp2} (hx : X[i]? = some x) (hy : X[k]? = some y) : Edge L i k ↔ NextP m x.1 y.1 ∧ folX m P t x.1 x.2.toNat y.1 y.2.toNat = true := by
  have _ := hk
  have hyo := hX.ok y (List.mem_of_getElem? hy)
  rw [hX.edge hx]
  constructor
  · rintro ⟨z, hz, hm⟩
    obtain rfl := Option.some.inj (hy.symm.trans hz)
    unfold bX behL at hm
    obtain ⟨n, hn, hm⟩ := List.mem_flatMap.1 hm
    unfold behN at hm
    obtain ⟨c, hc, rfl⟩ := List.mem_map.1 hm
    exact ⟨((nextL_ok m x.1).mem n).1 hn, by simpa using (List.mem_filter.1 hc).2⟩
  · rintro ⟨h1, h2⟩
    refine ⟨y, hy, ?_⟩
    unfold bX behL
    refine List.mem_flatMap.2 ⟨y.1, ((nextL_ok m x.1).mem y.1).2 h1, ?_⟩
    unfold behN
    obtain ⟨_, _, h3, h4⟩ := hyo
    refine List.mem_map.2 ⟨y.2.toNat, List.mem_filter.2 ⟨List.mem_range.2 (by omega), h2⟩, ?_⟩
    exact Prod.ext rfl (by show ((y.2.toNat : Nat) : Int) = y.2; omega)

/-- A fair part that is reached is a run that does not keep the formula. -/
theorem fair_breaks {mm : Nat} (hF : FairR L (bitsN (X.map (sX m P t))) (cntA t.flat) X.length (iX m P t).length mm) : ¬ HoldsR m P t := by
  obtain ⟨hmn, hf, s, hs, hr⟩ := hF
  obtain ⟨st, hst⟩ := Way.of_reach hr
  obtain ⟨l, hl0, hl, hlb⟩ := hf.round
  obtain ⟨c0, hc0, hc1, hc2⟩ := init_at hk hX hs
  have hsl : s < X.length := (List.getElem?_eq_some_iff.1 hc0).1
  have hW := hst.app hl
  obtain ⟨xs, hxs⟩ : ∃ xs, xs = st ++ l := ⟨_, rfl⟩
  have hn0 : st.length < xs.length := by rw [hxs, List.length_append]; omega
  have hin : ∀ i, i < xs.length → xs.getD i 0 < X.length := by
    intro i hi
    rw [hxs] at hi
    have h1 : (st ++ l)[i] ∈ st ++ l := by simp
    have h2 := hW.all _ h1
    have h3 := reach_in hX.inside hX.len h2.1 hsl
    rw [hxs, List.getD, List.getElem?_eq_getElem hi]
    exact h3
  have hedge : ∀ i, i < xs.length → Edge L (xs.getD i 0) (xs.getD (nxt xs.length st.length i) 0) := by
    intro i hi
    have h1 := hW.edge i (by rw [← hxs]; exact hi)
    rw [← hxs] at hW
    simp only [← hxs] at h1
    have e1 : xs.getD i 0 = xs[i] := by simp [List.getD, hi]
    rw [e1]
    unfold nxt
    by_cases h2 : i + 1 < xs.length
    · rw [dif_pos h2] at h1
      rw [if_pos h2, show xs.getD (i + 1) 0 = xs[i + 1] by simp [List.getD, h2]]
      exact h1
    · rw [dif_neg h2] at h1
      rw [if_neg h2]
      have hh := hl.head0
      have e2 : xs.getD st.length 0 = mm := by
        rw [hxs, List.getD, List.getElem?_append_right (Nat.le_refl _), Nat.sub_self]
        cases l with
        | nil => simp at hl0
        | cons y r => simp at hh; subst hh; rfl
      rw [e2]
      exact h1
  obtain ⟨y, hy⟩ : ∃ y : Nat → Sp2, ∀ i, i < xs.length → X[xs.getD i 0]? = some (y i) := by
    refine ⟨fun i => X.getD (xs.getD i 0) (0, 0), fun i hi => ?_⟩
    have h := hin i hi
    show X[xs.getD i 0]? = some (X.getD (xs.getD i 0) (0, 0))
    generalize xs.getD i 0 = q at *
    rw [List.getD, List.getElem?_eq_getElem h]
    rfl
  have hlt : st.length < xs.length := hn0
  have hx0 : xs.getD 0 0 = s := by
    have hh := hW.head0
    rw [← hxs] at hh
    have hp : 0 < xs.length := by omega
    rw [List.getElem?_append_left hp] at hh
    simp [List.getD, hh]
  have hy0 : y 0 = (m.first, (c0 : Int)) := by
    have := hy 0 (by omega)
    rw [hx0, hc0] at this
    exact (Option.some.inj this).symm
  have hstep : ∀ i, i < xs.length → NextP m (y i).1 (y (nxt xs.length st.length i)).1 ∧ folX m P t (y i).1 (y i).2.toNat (y (nxt xs.length st.length i)).1 (y (nxt xs.length st.length i)).2.toNat = true :=
    fun i hi => (edge_at hk hX (hy i hi) (hy _ (nxt_lt hlt))).1 (hedge i hi)
  intro hH
  have hrun : RunL m xs.length st.length fun i => (y i).1 := ⟨hlt, by show (y 0).1 = _; rw [hy0], fun i hi => (hstep i hi).1⟩
  have hsat := hH _ _ _ hrun
  obtain ⟨W, hWd⟩ : ∃ W, wdOf m P xs.length st.length (fun i => (y i).1) = W := ⟨_, rfl⟩
  have hWn : W.n = xs.length := by rw [← hWd, wdOf_n]
  have hWb : W.back = st.length := by rw [← hWd]; rfl
  have hWl : ∀ i, i < xs.length → W.ls.getD i [] = letS P (valsL m.vars (y i).1) := fun i hi => by rw [← hWd]; exact wdOf_get m P _ hi
  rw [hWd] at hsat
  have hbW : W.back < W.n := by omega
  have hline := (line_iff hbW hk.ff.ok hk.ff.fit (N := cntA t.flat) rfl (c := fun i => (y i).2.toNat) (fun i hi => by
    obtain ⟨_, _, h3, h4⟩ := hX.ok _ (List.mem_of_getElem? (hy i (by omega)))
    omega)).1 ⟨fun i hi => by
      rw [hWn] at hi
      unfold folN tvW
      rw [hWn, hWb, hWl i hi, hWl _ (nxt_lt hlt)]
      exact (hstep i hi).2, by
      rw [full_iff (macc_lt (fun j => metN_lt W t _ j) _ _)]
      intro b hb
      obtain ⟨i, hi, hbit⟩ := hlb b hb
      obtain ⟨j, hj, e⟩ := List.mem_iff_getElem.1 hi
      have hji : st.length + j < xs.length := by rw [hxs, List.length_append]; omega
      refine (macc_bit _ _ _ _).2 ⟨st.length + j, by omega, by omega, ?_⟩
      have hxi : xs.getD (st.length + j) 0 = i := by
        rw [hxs, List.getD, List.getElem?_append_right (by omega), Nat.add_sub_cancel_left, List.getElem?_eq_getElem hj, e]
        rfl
      have hyi := hy _ hji
      rw [hxi] at hyi
      unfold metN tvW
      rw [hWl _ hji]
      have e2 : bitsN (X.map (sX m P t)) i = meUp t.flat (t.ends 0) (tvT (letS P (valsL m.vars (y (st.length + j)).1)) (y (st.length + j)).2.toNat t 0) t.flat.length := by
        unfold bitsN
        rw [List.getD, List.getElem?_map, hyi]
        show (sX m P t _).toNat = _
        unfold sX
        simp
      rw [e2] at hbit
      exact hbit⟩
  have htv := claims_tv hbW hk.ff.ok hk.ff.fit (N := cntA t.flat) rfl hline 0 t (subs_head t) 0 (by omega)
  unfold tvW at htv
  rw [hWl 0 (by omega)] at htv
  simp only [hy0] at htv
  have e3 : (tvT (letS P (valsL m.vars m.first)) ((c0 : Int)).toNat t 0).getD 0 false = false := by
    rw [show ((c0 : Int)).toNat = c0 by omega]
    cases hv : tvT (letS P (valsL m.vars m.first)) c0 t 0 with
    | nil => rfl
    | cons b r => rw [hv] at hc2; simpa using hc2
  rw [e3] at htv
  rw [← satB_iff, ← htv] at hsat
  cases hsat

/-- A run that does not keep the formula is a fair part that is reached. -/
theorem breaks_fair (hH : ¬ HoldsR m P t) : ∃ mm, FairR L (bitsN (X.map (sX m P t))) (cntA t.flat) X.length (iX m P t).length mm := by
  unfold HoldsR at hH
  simp only [Classical.not_forall] at hH
  obtain ⟨n, back, x, hr, hns⟩ := hH
  obtain ⟨W, hWd⟩ : ∃ W, wdOf m P n back x = W := ⟨_, rfl⟩
  have hWn : W.n = n := by rw [← hWd, wdOf_n]
  have hWb : W.back = back := by rw [← hWd]; rfl
  have hWl : ∀ i, i < n → W.ls.getD i [] = letS P (valsL m.vars (x i)) := fun i hi => by rw [← hWd]; exact wdOf_get m P _ hi
  rw [hWd] at hns
  have hb := hr.hb
  have hbW : W.back < W.n := by omega
  obtain ⟨c, hc⟩ : ∃ c : Nat → Nat, ∀ i, c i = clU (ahB W t) (cntA t.flat) i := ⟨_, fun _ => rfl⟩
  have hclt : ∀ i, c i < 2 ^ cntA t.flat := fun i => by rw [hc]; exact clU_lt _ _ _
  obtain ⟨hfol, hmet⟩ := (line_iff hbW hk.ff.ok hk.ff.fit (N := cntA t.flat) rfl (c := c) (fun i _ => hclt i)).2 fun i _ => hc i
  have htv := claims_tv hbW hk.ff.ok hk.ff.fit (N := cntA t.flat) rfl (c := c) (fun i _ => hc i) 0 t (subs_head t) 0 (by omega)
  have hpos := t.size_pos
  have hy0 : (x 0, (c 0 : Int)) ∈ iX m P t := by
    unfold iX begL
    refine List.mem_map.2 ⟨c 0, List.mem_filter.2 ⟨List.mem_range.2 (hclt 0), ?_⟩, by rw [hr.first]⟩
    unfold tvW at htv
    rw [hWl 0 (by omega), hr.first] at htv
    have e : satB W t 0 = false := by
      cases h : satB W t 0
      · rfl
      · exact absurd (satB_iff.1 h) hns
    rw [e] at htv
    cases hv : tvT (letS P (valsL m.vars m.first)) (c 0) t 0 with
    | nil => rfl
    | cons b r => rw [hv] at htv; simp at htv; simp [htv]
  have hfx : ∀ i, i < n → folX m P t (x i) (c i) (x (nxt n back i)) (c (nxt n back i)) = true := fun i hi => by
    have h1 := hfol i (by omega)
    unfold folN tvW at h1
    rw [hWn, hWb, hWl i hi, hWl _ (nxt_lt hb)] at h1
    exact h1
  have hI : ∀ k, k < (iX m P t).length → X[k]? = (iX m P t)[k]? := fun k hk2 => by rw [← hX.pre, List.getElem?_take, if_pos hk2]
  have hmemB : ∀ i, i < n → (x (nxt n back i), (c (nxt n back i) : Int)) ∈ bX m P t (x i, (c i : Int)) := by
    intro i hi
    unfold bX behL
    refine List.mem_flatMap.2 ⟨x (nxt n back i), ((nextL_ok m (x i)).mem _).2 (hr.step i hi), ?_⟩
    unfold behN
    exact List.mem_map.2 ⟨c (nxt n back i), List.mem_filter.2 ⟨List.mem_range.2 (hclt _), hfx i hi⟩, rfl⟩
  have hclosed : ∀ (a : Nat) (y z : Sp2), X[a]? = some y → z ∈ bX m P t y → ∃ b : Nat, X[b]? = some z := by
    intro a y z ha hz
    have hal := (List.getElem?_eq_some_iff.1 ha).1
    have hlj : L[a]? = some (L[a]'(by rw [hX.len]; exact hal)) := List.getElem?_eq_getElem _
    have hL := hX.lead a _ y hlj ha
    obtain ⟨q, hq, e⟩ := List.mem_iff_getElem.1 hz
    obtain ⟨b, _, hb2⟩ := hL.2 q _ z (List.getElem?_eq_getElem (by rw [hL.1]; exact hq)) (by rw [List.getElem?_eq_getElem hq, e])
    exact ⟨b, hb2⟩
  have hall : ∀ i, i < n → ∃ a : Nat, X[a]? = some (x i, (c i : Int)) := by
    intro i
    induction i with
    | zero =>
      intro _
      obtain ⟨k, hk2, e⟩ := List.mem_iff_getElem.1 hy0
      exact ⟨k, by rw [hI k hk2, List.getElem?_eq_getElem hk2, e]⟩
    | succ i ih =>
      intro hi
      obtain ⟨a, ha⟩ := ih (by omega)
      have h1 := hmemB i (by omega)
      have e : nxt n back i = i + 1 := by unfold nxt; rw [if_pos hi]
      rw [e] at h1
      exact hclosed a _ _ ha h1
  obtain ⟨id, hid⟩ : ∃ id : Nat → Nat, ∀ i, i < n → X[id i]? = some (x i, (c i : Int)) :=
    ⟨fun i => if h : i < n then (hall i h).choose else 0, fun i hi => by simp only [dif_pos hi]; exact (hall i hi).choose_spec⟩
  have hed : ∀ i, i < n → Edge L (id i) (id (nxt n back i)) := fun i hi => (hX.edge (hid i hi)).2 ⟨_, hid _ (nxt_lt hb), hmemB i hi⟩
  have hre : ∀ j i, i < n → Reach L (id i) (id (nxtN n back j i)) := by
    intro j
    induction j with
    | zero => intro i _; exact .refl _
    | succ j ih => intro i hi; exact (Reach.edge (hed i hi)).trans (ih _ (nxt_lt hb))
  have hsame : ∀ i, back ≤ i → i < n → Same L (id back) (id i) := by
    intro i h1 h2
    obtain ⟨j, hj⟩ := nxtN_reach (n := n) (back := back) (i := back) (k := i) hb (by omega) h2 hb
    obtain ⟨k, hk2⟩ := nxtN_reach (n := n) (back := back) (i := i) (k := back) h2 (by omega) hb hb
    have g1 := hre j back hb
    have g2 := hre k i h2
    rw [hj] at g1
    rw [hk2] at g2
    exact ⟨g1, g2⟩
  have hid0 : id 0 < (iX m P t).length := by
    obtain ⟨k, hk2, e⟩ := List.mem_iff_getElem.1 hy0
    have := nodup_at hX.nd (hid 0 (by omega)) (j := k) (by rw [hI k hk2, List.getElem?_eq_getElem hk2, e])
    omega
  obtain ⟨mm, hm1, hm2⟩ : ∃ mm, Same L (id back) mm ∧ ∀ b, Same L (id back) b → mm ≤ b := by
    have key : ∀ k, ∀ a, a ≤ k → Same L (id back) a → ∃ mm, Same L (id back) mm ∧ ∀ b, Same L (id back) b → mm ≤ b := by
      intro k
      induction k with
      | zero => intro a ha hs; exact ⟨a, hs, fun b _ => by omega⟩
      | succ k ih =>
        intro a ha hs
        by_cases hq : ∃ b, b < a ∧ Same L (id back) b
        · obtain ⟨b, hb1, hb2⟩ := hq
          exact ih b (by omega) hb2
        · exact ⟨a, hs, fun b hb2 => Classical.byContradiction fun hlt => hq ⟨b, by omega, hb2⟩⟩
    exact key _ _ (Nat.le_refl _) (Same.refl L _)
  have hidl : ∀ i, i < n → id i < X.length := fun i hi => (List.getElem?_eq_some_iff.1 (hid i hi)).1
  obtain ⟨j0, hj0⟩ := nxtN_reach (n := n) (back := back) (i := 0) (k := back) (by omega) (by omega) hb hb
  have hr0 := hre j0 0 (by omega)
  rw [hj0] at hr0
  refine ⟨mm, reach_in hX.inside hX.len hm1.1 (hidl back hb), ⟨fun b hb2 => hm2 b (hm1.trans hb2), ?_, ?_⟩, id 0, hid0, hr0.trans hm1.1⟩
  · exact ⟨id back, id (nxt n back back), hidl back hb, hm1.symm, hed back hb, hm1.symm.trans (hsame _ (by unfold nxt; split <;> omega) (nxt_lt hb))⟩
  · intro b hbN
    rw [full_iff (macc_lt (fun j => metN_lt W t _ j) _ _)] at hmet
    obtain ⟨j, h1, h2, h3⟩ := (macc_bit _ _ _ _).1 (hmet b hbN)
    rw [hWb] at h1
    rw [hWn] at h2
    refine ⟨id j, hidl j h2, hm1.symm.trans (hsame j h1 h2), ?_⟩
    unfold bitsN
    rw [List.getD, List.getElem?_map, hid j h2]
    show ((sX m P t (x j, (c j : Int))).toNat).testBit b = true
    unfold metN tvW at h3
    rw [hWl j h2] at h3
    unfold sX
    simpa using h3

/-- There is a fair part just if some run does not keep the formula. -/
theorem fair_iff : (∃ mm, FairR L (bitsN (X.map (sX m P t))) (cntA t.flat) X.length (iX m P t).length mm) ↔ ¬ HoldsR m P t :=
  ⟨fun ⟨_, h⟩ => fair_breaks hk hX h, breaks_fair hk hX⟩
end

end Go.Proofs.YtbmimdnpchldlaaGreatDoor

namespace Go.Proofs.YtbmimdnpchldlaaGreatDoor
open Go.RowKit

/-- What Check answers. -/
def VerR (m : Md) (P : List Tm) (t : Tm) (w : World) (e : Ending) (w' : World) : Prop :=
  ∃ (b : Bool) (a1 : Option Addr) (n1 c1 : Nat) (a2 : Option Addr) (n2 c2 : Nat), e = .returned (.tuple #[.agg #[.bool b, .slice a1 n1 c1, .slice a2 n2 c2], .int .i64 0]) ∧ (b = true ↔ HoldsR m P t) ∧ Ext w w'

theorem set3 (a b c u : Value) : (#[a, b, c].setIfInBounds 0 u) = #[u, b, c] ∧ (#[a, b, c].setIfInBounds 1 u) = #[a, u, c] ∧ (#[a, b, c].setIfInBounds 2 u) = #[a, b, u] := by simp

/-- A verdict under way. -/
structure VBox (V : Nat) (Wb w : World) (v1 v2 : Value) : Prop where
  blk : w.heap[V]? = some (.cells #[.bool false, v1, v2] 81 (0, 0))
  e : Ext Wb w
  lo : Wb.heap.size ≤ V

theorem VBox.ext {V : Nat} {Wb w w' : World} {v1 v2 : Value} (h : VBox V Wb w v1 v2) (hE : Ext w w') : VBox V Wb w' v1 v2 := ⟨blk_ext h.blk hE, h.e.trans hE, h.lo⟩
theorem VBox.grown {V : Nat} {Wb w w' : World} {v1 v2 v : Value} {t : TypeId} {n : Nat} {xs : List Value} (h : VBox V Wb w v1 v2) (ho : w.ownsRow (V + 1) t 1 v n xs) (hg : w.grownBy w' v.ownBlock) : VBox V Wb w' v1 v2 := by
  have hlo := h.lo
  exact ⟨blk_grown h.blk hg (fun e => by have := (ho.lt V e.symm).1; omega), Below.grown h.e hg h.e.size (fun b hb => by have := (ho.lt b hb).1; omega), hlo⟩
theorem VBox.set1 {V : Nat} {Wb w : World} {v1 v2 : Value} (h : VBox V Wb w v1 v2) (u : Value) : VBox V Wb (w.setCell ⟨V, 1, none⟩ u) u v2 := by
  have hb := blk_set (i := 1) h.blk u
  rw [(set3 _ _ _ _).2.1] at hb
  exact ⟨hb, ext_st h.e (p := ⟨V, 1, none⟩) h.lo u, h.lo⟩
theorem VBox.set2 {V : Nat} {Wb w : World} {v1 v2 : Value} (h : VBox V Wb w v1 v2) (u : Value) : VBox V Wb (w.setCell ⟨V, 2, none⟩ u) v1 u := by
  have hb := blk_set (i := 2) h.blk u
  rw [(set3 _ _ _ _).2.2] at hb
  exact ⟨hb, ext_st h.e (p := ⟨V, 2, none⟩) h.lo u, h.lo⟩

set_option maxRecDepth 100000 in
set_option maxHeartbeats 16000000 in
theorem verdict_any (vv rv pv fv : Value) (m : Md) (P : List Tm) (t : Tm) (w : World) (h : IsTask w vv rv pv fv m P t) (ht : Tab w) (hk : TkOk m P t) (C : Nat) (hC : countL m.vars = (C : Int)) (hCN : C * 2 ^ cntA t.flat ≤ 20000) :
    Calls Tryz.prog 35 #[.agg #[vv, rv, pv, fv]] w (VerR m P t w) := by
  have HEX := Lib.hid fun wx (hx : Ext w wx) => explore_any vv rv pv fv m P t wx (h.ext hx) (ht.ext hx) hk C hC hCN
  have HGO := Lib.hid fun X L (hX : XDone (bX m P t) (oX m t) (iX m P t) X L) => xdone_gok hk hX C hC hCN
  have HFI := Lib.hid fun X L (hX : XDone (bX m P t) (oX m t) (iX m P t) X L) => fair_iff hk hX
  obtain ⟨av, cv, ar, cr, ap, cp, af, nf, cf, rfl, rfl, rfl, rfl⟩ := h.val
  generalize m.vars.length = nv at *
  generalize m.rules.length = nr at *
  generalize P.length = np at *
  clear h ht hk hC hCN
  have hb := blk_new w (Obj.cells #[.slice av nv cv, .slice ar nr cr, .slice ap np cp, .slice af nf cf] 35)
  have hx := ext_al (Ext.refl (w.alloc (Obj.cells #[.slice av nv cv, .slice ar nr cr, .slice ap np cp, .slice af nf cf] 35))) (Obj.cells #[.bool false, .slice none 0 0, .slice none 0 0] 81)
  have hb2 := blk_new (w.alloc (Obj.cells #[.slice av nv cv, .slice ar nr cr, .slice ap np cp, .slice af nf cf] 35)) (Obj.cells #[.bool false, .slice none 0 0, .slice none 0 0] 81)
  rw [World.size_alloc] at hb2
  have HE := Lib.hid ((ext_al (Ext.refl w) (Obj.cells #[.slice av nv cv, .slice ar nr cr, .slice ap np cp, .slice af nf cf] 35)).trans hx)
  have HB := Lib.hid (blk_ext hb hx)
  have HR := Lib.hid hb2
  have d0 := blk_cell HB.out (i := 0) rfl
  have d1 := blk_cell HB.out (i := 1) rfl
  have d2 := blk_cell HB.out (i := 2) rfl
  have d3 := blk_cell HB.out (i := 3) rfl
  clear hb hx hb2
  go_enter Tryz.func35, Tryz.ntmps35
  go_wp2_with fail
  generalize (w.alloc (Obj.cells #[.slice av nv cv, .slice ar nr cr, .slice ap np cp, .slice af nf cf] 35)).alloc (Obj.cells #[.bool false, .slice none 0 0, .slice none 0 0] 81) = W0 at *
  refine (HEX.out _ HE.out).mono ?_
  rintro e w1 ⟨τ, sp, nx, st, X, L, rfl, hm, hX, hE1⟩
  have hsp := hm.spots
  have hli := hm.lists
  have hin := hm.ints
  have hgo := HGO.out X L hX
  have hfi := HFI.out X L hX
  have hs1 : (X.map (sX m P t)).length = X.length := by simp
  have hxl : L.length = X.length := hgo.nx
  obtain ⟨ini, hini⟩ : ∃ k, (iX m P t).length = k := ⟨_, rfl⟩
  obtain ⟨kA, hkA⟩ : ∃ k, cntA t.flat = k := ⟨_, rfl⟩
  obtain ⟨bits, hbits⟩ : ∃ k, X.map (sX m P t) = k := ⟨_, rfl⟩
  rw [hini, hkA, hbits] at hgo hfi
  rw [hini, hkA]
  rw [hbits] at hin hs1
  obtain ⟨asp, csp, rfl, _⟩ := id hsp
  obtain ⟨ax, cx, rfl⟩ : ∃ a c, nx = .slice a L.length c := by
    obtain ⟨vs, _, a, c, e, _⟩ := hli
    exact ⟨a, c, e⟩
  obtain ⟨at', ct, rfl, _⟩ := id hin
  have h20 := hgo.max
  have HGO2 := Lib.hid hgo
  have HFI2 := Lib.hid hfi
  have HSP := Lib.hid hsp
  have HLI := Lib.hid hli
  have HIN := Lib.hid hin
  obtain ⟨n, hn⟩ : ∃ k, X.length = k := ⟨_, rfl⟩
  rw [hn] at HSP hxl hs1 h20 HGO2 HFI2 ⊢
  rw [hxl] at HLI ⊢
  rw [hs1] at HIN ⊢
  have HXN := Lib.hid hn
  have HE1 := Lib.hid (HE.out.trans hE1)
  have HR1 := Lib.hid (blk_ext HR.out hE1)
  have hx2 := ext_al (Ext.refl w1) (Obj.cells #[.slice asp n csp, .int .i64 (ini : Int), .slice ax n cx, .slice at' n ct, .int .i64 (kA : Int)] 44)
  have HG2 := Lib.hid (blk_new w1 (Obj.cells #[.slice asp n csp, .int .i64 (ini : Int), .slice ax n cx, .slice at' n ct, .int .i64 (kA : Int)] 44))
  have HX2 := Lib.hid hx2
  have HLA := Lib.hid fun wx (hx : Ext w1 wx) => lasso_any (.slice asp n csp) (.slice ax n cx) (.slice at' n ct) ini kA X L bits wx (HSP.out.ext hx) (HLI.out.ext hx) (HIN.out.ext hx) (by rw [HXN.out]; exact HGO2.out)
  rw [HXN.out] at HLA
  have g0 := blk_cell HG2.out (i := 0) rfl
  have g1 := blk_cell HG2.out (i := 1) rfl
  have g2 := blk_cell HG2.out (i := 2) rfl
  have g3 := blk_cell HG2.out (i := 3) rfl
  have g4 := blk_cell HG2.out (i := 4) rfl
  clear d0 d1 d2 d3 hm hX hE1 hsp hli hin hgo hfi hs1 hxl hini hkA hbits hn hx2 HGO HFI HEX HB
  go_upto_region 2 with fail
  obtain ⟨GB, hGB⟩ : ∃ x, w1.heap.size = x := ⟨_, rfl⟩
  rw [hGB] at HG2 g0 g1 g2 g3 g4 ⊢
  clear hGB
  generalize w1.alloc (Obj.cells #[.slice asp n csp, .int .i64 (ini : Int), .slice ax n cx, .slice at' n ct, .int .i64 (kA : Int)] 44) = W2 at *
  go_wp2_with fail
  refine (HLA.out _ HX2.out).mono ?_
  clear g0 g1 g2 g3 g4
  rintro e w3 ⟨⟨st, lp, a1, c1, a2, c2, rfl, hr1, hr2, -, hlt, ⟨hl1, hl2⟩, hfm⟩ | ⟨rfl, hno⟩, hE3⟩
  · have HNH := Lib.hid (HFI2.out.1 hfm)
    have hx3 := ext_al (Ext.refl w3) (Obj.cells #[.slice a1 st.length c1, .slice a2 lp.length c2] 38)
    have HX3 := Lib.hid (hE3.trans hx3)
    have BL := Lib.hid (blk_new w3 (Obj.cells #[.slice a1 st.length c1, .slice a2 lp.length c2] 38))
    obtain ⟨_, _, e1, hw1⟩ := hr1
    simp only [Value.slice.injEq] at e1
    obtain ⟨rfl, -, rfl⟩ := e1
    obtain ⟨_, _, e2, hw2⟩ := hr2
    simp only [Value.slice.injEq] at e2
    obtain ⟨rfl, -, rfl⟩ := e2
    have HW1 := Lib.hid (hw1.ext hx3)
    have HW2 := Lib.hid (hw2.ext hx3)
    have HLT := Lib.hid hlt
    have HEF := Lib.hid (HE1.out.trans (HX2.out.trans HX3.out))
    have HSP3 := Lib.hid (HSP.out.ext (HX2.out.trans HX3.out))
    have HG3 := Lib.hid (blk_ext HG2.out HX3.out)
    have HR3 := Lib.hid (blk_ext HR1.out (HX2.out.trans HX3.out))
    clear hfm hx3 hE3 hw1 hw2 hlt HLA HG2 HX3 HSP
    go_upto_region 5 with fail
    obtain ⟨LB, hLB⟩ : ∃ x, w3.heap.size = x := ⟨_, rfl⟩
    rw [hLB] at BL ⊢
    clear hLB
    generalize w3.alloc (Obj.cells #[.slice a1 st.length c1, .slice a2 lp.length c2] 38) = W3 at *
    go_upto_region 7 with fail
    have hx4 := ext_al (Ext.refl W3) (Obj.cells #[.bool false, .slice none 0 0, .slice none 0 0] 81)
    have HX4 := Lib.hid hx4
    have hv4 : VBox W3.heap.size W3 (W3.alloc (Obj.cells #[.bool false, .slice none 0 0, .slice none 0 0] 81)) (.slice none 0 0) (.slice none 0 0) := ⟨blk_new W3 _, hx4, Nat.le_refl _⟩
    have HV4 := Lib.hid hv4
    have r0 := blk_cell (blk_ext BL.out hx4) (i := 0) rfl
    have r1 := blk_cell (blk_ext BL.out hx4) (i := 1) rfl
    clear hx4 hv4
    go_upto_region 8 with fail
    obtain ⟨V, hV⟩ : ∃ x, W3.heap.size = x := ⟨_, rfl⟩
    have HVS := Lib.hid hV
    rw [hV] at HV4 ⊢
    clear hV
    generalize W3.alloc (Obj.cells #[.bool false, .slice none 0 0, .slice none 0 0] 81) = W4 at *
    go_wp2_with fail
    clear r0 r1
    go_loopg [32] st.length (fun g x wr => ∃ (i : Nat) (a : Option Addr) (c : Nat) (xs : List Value), g + i = st.length ∧ x = .int .i64 (i : Int) ∧ wr.ownsRow (V + 1) 3 1 (.slice a i c) i xs ∧ VBox V W3 wr (.slice a i c) (.slice none 0 0))
    case atStart => exact ⟨0, none, 0, [], by omega, by go_num, World.ownsRow_nil _ _ _ _, HV4.out⟩
    case round =>
      obtain ⟨i, a, c, xs, hgi, rfl, ho, hv⟩ := hrel
      have HGI := Lib.hid hgi
      have HO := Lib.hid ho
      have HV := Lib.hid hv
      clear hgi ho hv
      by_cases hi : i < st.length
      · have hr := HW1.out
        obtain ⟨bI, oI, i1, i2⟩ := row_cells (f := fun x : Nat => Value.int .i64 (x : Int)) hr
        obtain rfl := i1 (by omega)
        have ci := i2 i hi
        have hci := hr.le
        have hcm := hr.max
        have hqn := HLT.out st[i] (by simp)
        generalize st[i] = q at *
        replace ci := (World.cell?_of_block (HV.out.e.block bI (World.block_lt_of_cell? _ _ ci))).trans ci
        obtain ⟨hsc, hsm, bS, oS, s1, s2⟩ := spots_cells HSP3.out
        obtain rfl := s1 (by have := HXN.out; omega)
        have cS := (s2 q (by have := HXN.out; omega)).1
        obtain ⟨sv, hsv⟩ : ∃ x, (X[q]'(by have := HXN.out; omega)).1 = x := ⟨_, rfl⟩
        rw [hsv] at cS
        replace cS := (World.cell?_of_block (HV.out.e.block bS (World.block_lt_of_cell? _ _ cS))).trans cS
        have hgb := blk_ext HG3.out HV.out.e
        have g0 := blk_cell hgb (i := 0) rfl
        have v1 := blk_cell HV.out.blk (i := 1) rfl
        have v2 := blk_cell HV.out.blk (i := 2) rfl
        have hVw := blk_lt HV.out.blk
        have HAL := Lib.hid (show Ext wr (wr.alloc (Obj.cells #[.int .i64 sv] 3)).drew from Below.drew (ext_al (Ext.refl _) _))
        have HOA := Lib.hid (own_ext HO.out HAL.out)
        have hvA := (HV.out.ext HAL.out).blk
        have v1A := blk_cell hvA (i := 1) rfl
        have hiI : (i : Int) < (st.length : Int) := by omega
        have hi0 : (0 : Int) ≤ (i : Int) := by omega
        have hqI : (q : Int) < (n : Int) := by omega
        have hq0 : (0 : Int) ≤ (q : Int) := by omega
        unfold maxLen at hcm hsm
        clear hr i1 i2 s2 hsv hgb hvA
        go_upto_region 11 with fail
        go_region_law (refine step_append rfl rfl Tryz.slIntsG (V + 1) (by rfl) HOA.out (by rfl) ((Row.oneG _ _ _ _ rfl).ext (Below.drew (Ext.refl _))) (one_int _) (by unfold maxLen; omega) (by omega) (by simp; omega) ?_
                       intro v8 w8 hown8 hg8 hb8 _
                       obtain ⟨a8, c8, rfl, _⟩ := id hown8.row
                       have hv8 := (HV.out.ext HAL.out).grown HOA.out hg8
                       have c81 := blk_cell hv8.blk (i := 1) rfl
                       have f81 := blk_free hv8.blk 1
                       have HO8 := Lib.hid (own_setCell hown8 (p := ⟨V, 1, none⟩) (.slice a8 (i + 1) c8) (fun e => by have h : V + 1 ≤ V := (hown8.lt _ e).1; omega))
                       have HV8 := Lib.hid (hv8.set1 (.slice a8 (i + 1) c8))
                       clear hown8 hg8 hb8 hv8)
        all_goals
          go_wp2_with fail
          go_roundg (gk - 1)
          case measure => have := HGI.out; omega
          case rel => exact ⟨i + 1, a8, c8, _, by have := HGI.out; omega, by go_num, HO8.out, HV8.out⟩
      · obtain rfl : i = st.length := by have := HGI.out; omega
        have hiI : ¬ (st.length : Int) < (st.length : Int) := by omega
        have hlb := blk_ext BL.out (HX4.out.trans (Ext.refl _))
        have hL := blk_ext BL.out HV.out.e
        have r1 := blk_cell hL (i := 1) rfl
        clear hlb hL
        go_upto_region 13 with fail
        obtain ⟨wo, rfl⟩ : ∃ wo : World, wo = wr := ⟨_, rfl⟩
        obtain ⟨av1, rfl⟩ : ∃ x : Option Addr, x = a := ⟨_, rfl⟩
        obtain ⟨cv1, rfl⟩ : ∃ x : Nat, x = c := ⟨_, rfl⟩
        have HV5 := HV
        go_wp2_with fail
        clear r1 HO HV HGI
        go_loopg [53] lp.length (fun g x wr => ∃ (i : Nat) (a : Option Addr) (c : Nat) (xs : List Value), g + i = lp.length ∧ x = .int .i64 (i : Int) ∧ wr.ownsRow (V + 1) 3 1 (.slice a i c) i xs ∧ VBox V W3 wr (.slice av1 st.length cv1) (.slice a i c))
        case atStart => exact ⟨0, none, 0, [], by omega, by go_num, World.ownsRow_nil _ _ _ _, HV5.out⟩
        case round =>
          obtain ⟨i, a, c, xs, hgi, rfl, ho, hv⟩ := hrel
          have HGI := Lib.hid hgi
          have HO := Lib.hid ho
          have HV := Lib.hid hv
          clear hgi ho hv HV5
          by_cases hi : i < lp.length
          · have hr := HW2.out
            obtain ⟨bI, oI, i1, i2⟩ := row_cells (f := fun x : Nat => Value.int .i64 (x : Int)) hr
            obtain rfl := i1 (by omega)
            have ci := i2 i hi
            have hci := hr.le
            have hcm := hr.max
            have hqn := HLT.out lp[i] (by simp)
            generalize lp[i] = q at *
            replace ci := (World.cell?_of_block (HV.out.e.block bI (World.block_lt_of_cell? _ _ ci))).trans ci
            obtain ⟨hsc, hsm, bS, oS, s1, s2⟩ := spots_cells HSP3.out
            obtain rfl := s1 (by have := HXN.out; omega)
            have cS := (s2 q (by have := HXN.out; omega)).1
            obtain ⟨sv, hsv⟩ : ∃ x, (X[q]'(by have := HXN.out; omega)).1 = x := ⟨_, rfl⟩
            rw [hsv] at cS
            replace cS := (World.cell?_of_block (HV.out.e.block bS (World.block_lt_of_cell? _ _ cS))).trans cS
            have hgb := blk_ext HG3.out HV.out.e
            have g0 := blk_cell hgb (i := 0) rfl
            have v1 := blk_cell HV.out.blk (i := 1) rfl
            have v2 := blk_cell HV.out.blk (i := 2) rfl
            have hVw := blk_lt HV.out.blk
            have HAL := Lib.hid (show Ext wr (wr.alloc (Obj.cells #[.int .i64 sv] 3)).drew from Below.drew (ext_al (Ext.refl _) _))
            have HOA := Lib.hid (own_ext HO.out HAL.out)
            have hvA := (HV.out.ext HAL.out).blk
            have v1A := blk_cell hvA (i := 1) rfl
            have hiI : (i : Int) < (lp.length : Int) := by omega
            have hi0 : (0 : Int) ≤ (i : Int) := by omega
            have hqI : (q : Int) < (n : Int) := by omega
            have hq0 : (0 : Int) ≤ (q : Int) := by omega
            unfold maxLen at hcm hsm
            clear hr i1 i2 s2 hsv hgb hvA
            go_upto_region 16 with fail
            go_region_law (refine step_append rfl rfl Tryz.slIntsG (V + 1) (by rfl) HOA.out (by rfl) ((Row.oneG _ _ _ _ rfl).ext (Below.drew (Ext.refl _))) (one_int _) (by unfold maxLen; omega) (by omega) (by simp; omega) ?_
                           intro v8 w8 hown8 hg8 hb8 _
                           obtain ⟨a8, c8, rfl, _⟩ := id hown8.row
                           have hv8 := (HV.out.ext HAL.out).grown HOA.out hg8
                           have c81 := blk_cell hv8.blk (i := 2) rfl
                           have f81 := blk_free hv8.blk 2
                           have HO8 := Lib.hid (own_setCell hown8 (p := ⟨V, 2, none⟩) (.slice a8 (i + 1) c8) (fun e => by have h : V + 1 ≤ V := (hown8.lt _ e).1; omega))
                           have HV8 := Lib.hid (hv8.set2 (.slice a8 (i + 1) c8))
                           clear hown8 hg8 hb8 hv8)
            all_goals
              go_wp2_with fail
              go_roundg (gk - 1)
              case measure => have := HGI.out; omega
              case rel => exact ⟨i + 1, a8, c8, _, by have := HGI.out; omega, by go_num, HO8.out, HV8.out⟩
          · obtain rfl : i = lp.length := by have := HGI.out; omega
            have hiI : ¬ (lp.length : Int) < (lp.length : Int) := by omega
            have v0 := blk_cell HV.out.blk (i := 0) rfl
            have v1 := blk_cell HV.out.blk (i := 1) rfl
            have v2 := blk_cell HV.out.blk (i := 2) rfl
            have hbr := blk_ext HR3.out HV.out.e
            have r0 := blk_cell hbr (i := 0) rfl
            have r1 := blk_cell hbr (i := 1) rfl
            have r2 := blk_cell hbr (i := 2) rfl
            have f0 := blk_free hbr 0
            have f1 := blk_free hbr 1
            have f2 := blk_free hbr 2
            have HXF := Lib.hid (ext_st (ext_st (ext_st (HEF.out.trans HV.out.e) (p := ⟨w.heap.size + 1, 0, none⟩) (Nat.le_succ _) (.bool false)) (p := ⟨w.heap.size + 1, 1, none⟩) (Nat.le_succ _) (.slice av1 st.length cv1)) (p := ⟨w.heap.size + 1, 2, none⟩) (Nat.le_succ _) (.slice a lp.length c))
            clear hbr
            go_wp2
            refine bodyPost_ret (v := .tuple #[.agg #[.bool false, .slice av1 st.length cv1, .slice a lp.length c], .int .i64 0]) (by simp [results, Tryz.results35, go_sem, r0, r1, r2]) rfl ⟨false, av1, st.length, cv1, a, lp.length, c, rfl, by simp [HNH.out], HXF.out⟩
  · have HNH := Lib.hid (show HoldsR m P t from Classical.byContradiction fun hc => by
      obtain ⟨mm, h⟩ := HFI2.out.2 hc
      exact hno mm h)
    have hx3 := ext_al (Ext.refl w3) (Obj.cells #[.slice none 0 0, .slice none 0 0] 38)
    have hbr := blk_ext HR1.out (HX2.out.trans (hE3.trans hx3))
    have r0 := blk_cell hbr (i := 0) rfl
    have r1 := blk_cell hbr (i := 1) rfl
    have r2 := blk_cell hbr (i := 2) rfl
    have f0 := blk_free hbr 0
    have f1 := blk_free hbr 1
    have f2 := blk_free hbr 2
    have HXF := Lib.hid (ext_st (ext_st (ext_st (HE1.out.trans (HX2.out.trans (hE3.trans hx3))) (p := ⟨w.heap.size + 1, 0, none⟩) (Nat.le_succ _) (.bool true)) (p := ⟨w.heap.size + 1, 1, none⟩) (Nat.le_succ _) (.slice none 0 0)) (p := ⟨w.heap.size + 1, 2, none⟩) (Nat.le_succ _) (.slice none 0 0))
    clear hno hE3 hx3 hbr HLA HFI2 HG2
    go_wp2
    refine bodyPost_ret (v := .tuple #[.agg #[.bool true, .slice none 0 0, .slice none 0 0], .int .i64 0]) (by simp [results, Tryz.results35, go_sem, r0, r1, r2]) rfl ⟨true, none, 0, 0, none, 0, 0, rfl, by simp [HNH.out], HXF.out⟩

end Go.Proofs.YtbmimdnpchldlaaGreatDoor

namespace Go.Proofs.YtbmimdnpchldlaaGreatDoor

/-- A lasso of states from a state. -/
structure LasS (m : Md) (c : Int) (n back : Nat) (x : Nat → Int) : Prop where
  hb : back < n
  first : x 0 = c
  step : ∀ i, i < n → NextP m (x i) (x (nxt n back i))
/-- What comes, one behind the other. -/
def SeqS (m : Md) (c : Int) (z : Nat → Int) : Prop := ∃ n back x, LasS m c n back x ∧ ∀ k, z k = x (nxtN n back k 0)

theorem nxtN_succ (n back : Nat) (k i : Nat) : nxtN n back (k + 1) i = nxt n back (nxtN n back k i) := by rw [nxtN_add]; rfl

section
variable {m : Md} {c d : Int} {z : Nat → Int}
theorem SeqS.zero (h : SeqS m c z) : z 0 = c := by
  obtain ⟨n, back, x, hl, hz⟩ := h
  rw [hz]; exact hl.first
theorem SeqS.step (h : SeqS m c z) (k : Nat) : NextP m (z k) (z (k + 1)) := by
  obtain ⟨n, back, x, hl, hz⟩ := h
  have hb := hl.hb
  rw [hz, hz, nxtN_succ]
  exact hl.step _ (nxtN_lt hb k 0 (by omega))

theorem nxtN_cons (n back : Nat) : ∀ k i, nxtN (n + 1) (back + 1) k (i + 1) = nxtN n back k i + 1
  | 0, _ => rfl
  | k + 1, i => by
    show nxtN (n + 1) (back + 1) k (nxt (n + 1) (back + 1) (i + 1)) = nxtN n back k (nxt n back i) + 1
    have e : nxt (n + 1) (back + 1) (i + 1) = nxt n back i + 1 := by unfold nxt; split <;> split <;> omega
    rw [e]
    exact nxtN_cons n back k _

theorem SeqS.cons (h : SeqS m d z) (hn : NextP m c d) : SeqS m c fun k => if k = 0 then c else z (k - 1) := by
  obtain ⟨n, back, x, hl, hz⟩ := h
  have hb := hl.hb
  refine ⟨n + 1, back + 1, fun i => if i = 0 then c else x (i - 1), ⟨by omega, rfl, fun i hi => ?_⟩, fun k => ?_⟩
  · by_cases h0 : i = 0
    · subst h0
      have e : nxt (n + 1) (back + 1) 0 = 1 := by unfold nxt; rw [if_pos (by omega)]
      rw [e]
      simp only [if_true, Nat.one_ne_zero, if_false, Nat.sub_self]
      rw [hl.first]
      exact hn
    · obtain ⟨j, rfl⟩ : ∃ j, i = j + 1 := ⟨i - 1, by omega⟩
      have e : nxt (n + 1) (back + 1) (j + 1) = nxt n back j + 1 := by unfold nxt; split <;> split <;> omega
      rw [e]
      simpa using hl.step j (by omega)
  · cases k with
    | zero => simp [nxtN]
    | succ k =>
      have e : nxtN (n + 1) (back + 1) (k + 1) 0 = nxtN n back k 0 + 1 := by
        show nxtN (n + 1) (back + 1) k (nxt (n + 1) (back + 1) 0) = _
        have e : nxt (n + 1) (back + 1) 0 = 0 + 1 := by unfold nxt; rw [if_pos (by omega)]
        rw [e, nxtN_cons]
      rw [e]
      simp [hz]

/-- From where one can stay for ever in what is allowed. -/
def StayS (m : Md) (A : Int → Prop) (c : Int) : Prop := ∃ S : Int → Prop, S c ∧ ∀ d, S d → A d ∧ ∃ e, NextP m d e ∧ S e
/-- From where one can come, through what is allowed, to what is wanted. -/
inductive LeadS (m : Md) (A B : Int → Prop) : Int → Prop
  | here {c : Int} : B c → LeadS m A B c
  | step {c d : Int} : A c → NextP m c d → LeadS m A B d → LeadS m A B c

/-- A state's number. -/
def InN (N : Nat) (c : Int) : Prop := 0 ≤ c ∧ c < (N : Int)
theorem LeadS.inr {N : Nat} {A B : Int → Prop} (hN : ∀ c d, InN N c → NextP m c d → InN N d) (h : LeadS m A B c) : InN N c → LeadS m A (fun d => B d ∧ InN N d) c := by
  induction h with
  | here hb => exact fun hc => .here ⟨hb, hc⟩
  | step ha hn _ ih => exact fun hc => .step ha hn (ih (hN _ _ hc hn))

theorem StayS.seq {N : Nat} {A : Int → Prop} (hN : ∀ c d, InN N c → NextP m c d → InN N d) (hcN : InN N c) (h : StayS m A c) : ∃ z, SeqS m c z ∧ ∀ k, A (z k) := by
  obtain ⟨S, hc, hS⟩ := h
  obtain ⟨f, hf⟩ : ∃ f : Int → Int, ∀ d, S d → NextP m d (f d) ∧ S (f d) := by
    have h2 : ∀ d, ∃ e, S d → NextP m d e ∧ S e := fun d => by
      by_cases hd : S d
      · obtain ⟨e, he⟩ := (hS d hd).2
        exact ⟨e, fun _ => he⟩
      · exact ⟨0, fun h => absurd h hd⟩
    exact ⟨fun d => (h2 d).choose, fun d hd => (h2 d).choose_spec hd⟩
  obtain ⟨y, y0, ys⟩ : ∃ y : Nat → Int, y 0 = c ∧ ∀ k, y (k + 1) = f (y k) := ⟨fun k => Nat.rec c (fun _ v => f v) k, rfl, fun _ => rfl⟩
  have hSy : ∀ k, S (y k) := by
    intro k
    induction k with
    | zero => rw [y0]; exact hc
    | succ k ih => rw [ys]; exact (hf _ ih).2
  have hst : ∀ k, NextP m (y k) (y (k + 1)) := fun k => by rw [ys]; exact (hf _ (hSy k)).1
  have hbd : ∀ k, InN N (y k) := by
    intro k
    induction k with
    | zero => rw [y0]; exact hcN
    | succ k ih => exact hN _ _ ih (hst k)
  have hex : ∃ i j, i < j ∧ y i = y j := by
    apply Classical.byContradiction
    intro hno
    have hnd : ((List.range (N + 1)).map fun k => y k).Nodup := by
      rw [List.Nodup, List.pairwise_map]
      refine List.nodup_range.imp_of_mem fun {a b} _ _ hab e => ?_
      rcases Nat.lt_trichotomy a b with q | q | q
      · exact hno ⟨a, b, q, e⟩
      · exact hab q
      · exact hno ⟨b, a, q, e.symm⟩
    have := nodup_boundN N hnd fun x hx => by
      obtain ⟨k, _, rfl⟩ := List.mem_map.1 hx
      exact hbd k
    simp at this
    omega
  obtain ⟨i, j, hij, e⟩ := hex
  refine ⟨fun k => y (nxtN j i k 0), ⟨j, i, y, ⟨hij, y0, fun k hk => ?_⟩, fun _ => rfl⟩, fun k => (hS _ (hSy _)).1⟩
  unfold nxt
  split
  · exact hst k
  · have : k + 1 = j := by omega
    rw [e, ← this]
    exact hst k

theorem SeqS.stay {A : Int → Prop} (h : SeqS m c z) (j : Nat) (hA : ∀ k, A (z (j + k))) : StayS m A (z j) :=
  ⟨fun d => ∃ k, d = z (j + k), ⟨0, rfl⟩, by
    rintro d ⟨k, rfl⟩
    exact ⟨hA k, z (j + k + 1), h.step _, k + 1, by rw [Nat.add_assoc]⟩⟩
theorem SeqS.lead {A B : Int → Prop} (h : SeqS m c z) : ∀ j i, (∀ k, i ≤ k → k < i + j → A (z k)) → B (z (i + j)) → LeadS m A B (z i)
  | 0, i, _, hB => .here hB
  | j + 1, i, hA, hB => .step (hA i (Nat.le_refl _) (by omega)) (h.step i) (h.lead j (i + 1) (fun k h1 h2 => hA k (by omega) (by omega)) (by rw [show i + 1 + j = i + (j + 1) by omega]; exact hB))
theorem LeadS.seq {A B : Int → Prop} {Q : Int → (Nat → Int) → Prop} (h : LeadS m A B c) (hB : ∀ d, B d → ∃ z, SeqS m d z ∧ Q d z) : ∃ z j d, SeqS m c z ∧ (∀ k, k < j → A (z k)) ∧ B d ∧ Q d (fun k => z (j + k)) := by
  induction h with
  | @here c hc =>
    obtain ⟨z, h1, h2⟩ := hB c hc
    exact ⟨z, 0, c, h1, fun k hk => by omega, hc, by simpa using h2⟩
  | @step c d ha hn _ ih =>
    obtain ⟨z, j, d', h1, h2, h3, h4⟩ := ih
    refine ⟨_, j + 1, d', h1.cons hn, fun k hk => ?_, h3, ?_⟩
    · cases k with
      | zero => exact ha
      | succ k => simpa using h2 k (by omega)
    · have e : (fun k => (fun k => if k = 0 then c else z (k - 1)) (j + 1 + k)) = fun k => z (j + k) := by
        funext k
        show (if j + 1 + k = 0 then c else z (j + 1 + k - 1)) = _
        rw [if_neg (by omega), show j + 1 + k - 1 = j + k by omega]
      rw [e]
      exact h4
theorem LeadS.mono {A B A' B' : Int → Prop} (h : LeadS m A B c) (hA : ∀ d, A d → A' d) (hB : ∀ d, B d → B' d) : LeadS m A' B' c := by
  induction h with
  | here hc => exact .here (hB _ hc)
  | step ha hn _ ih => exact .step (hA _ ha) hn ih
theorem LeadS.trans {A B B' : Int → Prop} (h : LeadS m A B c) (hB : ∀ d, B d → LeadS m A B' d) : LeadS m A B' c := by
  induction h with
  | here hc => exact hB _ hc
  | step ha hn _ ih => exact .step ha hn ih

/-- A ring of steps: one comes to its begin again and again. -/
theorem LeadS.round (hn : NextP m c d) (h : LeadS m (fun _ => True) (fun e => e = c) d) : ∃ z, SeqS m c z ∧ ∀ K, ∃ k, K ≤ k ∧ z k = c := by
  have key : ∀ d, LeadS m (fun _ => True) (fun e => e = c) d → ∃ l : List Int, (l ++ [c])[0]? = some d ∧ ∀ i (hi : i < l.length), NextP m l[i] (if h : i + 1 < l.length then l[i + 1] else c) := by
    intro d h
    induction h with
    | here hc => exact ⟨[], by simp [hc], fun i hi => by simp at hi⟩
    | @step a b _ hn _ ih =>
      obtain ⟨l, h0, h1⟩ := ih
      refine ⟨a :: l, by simp, fun i hi => ?_⟩
      cases i with
      | zero =>
        cases l with
        | nil => simp at h0; subst h0; simpa using hn
        | cons y r => simp at h0; subst h0; simpa using hn
      | succ i => have := h1 i (by simpa using hi); simpa using this
  obtain ⟨l, h0, h1⟩ := key d h
  have hxs : ∀ i (hi : i < (c :: l).length), NextP m (c :: l)[i] (if h : i + 1 < (c :: l).length then (c :: l)[i + 1] else c) := by
    intro i hi
    cases i with
    | zero =>
      cases l with
      | nil => simp at h0; subst h0; simpa using hn
      | cons y r => simp at h0; subst h0; simpa using hn
    | succ i => have := h1 i (by simpa using hi); simpa using this
  obtain ⟨xs, hx⟩ : ∃ xs, c :: l = xs := ⟨_, rfl⟩
  have h00 : xs[0]? = some c := by rw [← hx]; rfl
  have hl0 : 0 < xs.length := by rw [← hx]; simp
  rw [hx] at hxs
  have hst : ∀ i, i < xs.length → NextP m (xs.getD i 0) (xs.getD (nxt xs.length 0 i) 0) := by
    intro i hi
    have h2 := hxs i hi
    rw [List.getD, List.getElem?_eq_getElem hi]
    unfold nxt
    by_cases h3 : i + 1 < xs.length
    · rw [dif_pos h3] at h2
      rw [if_pos h3, List.getD, List.getElem?_eq_getElem h3]
      exact h2
    · rw [dif_neg h3] at h2
      rw [if_neg h3, List.getD, h00]
      exact h2
  refine ⟨fun k => xs.getD (nxtN xs.length 0 k 0) 0, ⟨xs.length, 0, fun i => xs.getD i 0, ⟨hl0, by show xs.getD 0 0 = c; rw [List.getD, h00]; rfl, hst⟩, fun _ => rfl⟩, fun K => ?_⟩
  obtain ⟨j, hj⟩ := nxtN_reach (n := xs.length) (back := 0) (i := nxtN xs.length 0 K 0) (k := 0) (nxtN_lt hl0 K 0 hl0) (by omega) hl0 hl0
  refine ⟨K + j, by omega, ?_⟩
  show xs.getD (nxtN xs.length 0 (K + j) 0) 0 = c
  rw [nxtN_add, hj, List.getD, h00]
  rfl
/-- What comes again and again in a lasso leads back to itself. -/
theorem SeqS.again {A : Int → Prop} (h : SeqS m c z) (hA : ∀ K, ∃ k, K ≤ k ∧ A (z k)) : ∃ k, A (z k) ∧ ∃ j, 0 < j ∧ z (k + j) = z k := by
  obtain ⟨n, back, x, hl, hz⟩ := h
  have hb := hl.hb
  obtain ⟨k, hk, ha⟩ := hA n
  refine ⟨k, ha, n - back, by omega, ?_⟩
  rw [hz, hz]
  have h1 : back ≤ nxtN n back k 0 := by
    have e : k = n + (k - n) := by omega
    rw [e, nxtN_add, nxtN_back n 0 (by omega) (by omega)]
    have := nxtN_min (n := n) (back := back) (k - n) back
    omega
  have h2 := nxtN_lt hb k 0 (by omega)
  rw [nxtN_add]
  generalize nxtN n back k 0 = q at *
  have e2 : n - back = (n - q) + (q - back) := by omega
  rw [e2, nxtN_add, nxtN_back (n - q) q (by omega) (by omega), nxtN_up _ _ (by omega)]
  congr 1
  omega
end

/-! What must hold of all runs. -/
section
variable {m : Md} {P : List Tm}
/-- A proposition at a state. -/
def pS (m : Md) (P : List Tm) (v : Int) (c : Int) : Prop := (letS P (valsL m.vars c)).getD v.toNat false = true

theorem holds_seq {t : Tm} (φ : (Nat → Int) → Prop) (h : ∀ n back x, back < n → (Sat (wdOf m P n back x) t 0 ↔ φ fun k => x (nxtN n back k 0))) : HoldsR m P t ↔ ∀ z, SeqS m m.first z → φ z := by
  constructor
  · rintro hH z ⟨n, back, x, hl, hz⟩
    obtain rfl : z = fun k => x (nxtN n back k 0) := funext hz
    exact (h n back x hl.hb).1 (hH n back x ⟨hl.hb, hl.first, hl.step⟩)
  · intro hH n back x hr
    exact (h n back x hr.hb).2 (hH _ ⟨n, back, x, ⟨hr.hb, hr.first, hr.step⟩, fun _ => rfl⟩)

theorem sat_prop {n back : Nat} {x : Nat → Int} {v : Int} {i : Nat} (hi : i < n) : Sat (wdOf m P n back x) (.n0 13 v) i ↔ pS m P v (x i) := by
  unfold Sat pS
  rw [if_pos rfl, wdOf_get m P x hi]

theorem holds_fin (v : Int) : HoldsR m P (.n1 17 0 (.n0 13 v)) ↔ ∀ z, SeqS m m.first z → ∃ k, pS m P v (z k) :=
  holds_seq (φ := fun z => ∃ k, pS m P v (z k)) fun n back x hb => by
    rw [sat_fin]
    simp only [wdOf_n]
    exact exists_congr fun j => sat_prop (nxtN_lt hb j 0 (by omega))
theorem holds_unt (u v : Int) : HoldsR m P (.n2 15 0 (.n0 13 u) (.n0 13 v)) ↔ ∀ z, SeqS m m.first z → ∃ j, pS m P v (z j) ∧ ∀ k, k < j → pS m P u (z k) :=
  holds_seq (φ := fun z => ∃ j, pS m P v (z j) ∧ ∀ k, k < j → pS m P u (z k)) fun n back x hb => by
    rw [sat_unt]
    simp only [wdOf_n]
    unfold UntilP
    exact exists_congr fun j => and_congr (sat_prop (nxtN_lt hb j 0 (by omega))) (forall_congr' fun k => forall_congr' fun _ => sat_prop (nxtN_lt hb k 0 (by omega)))
theorem holds_rel (u v : Int) : HoldsR m P (.n2 16 0 (.n0 13 u) (.n0 13 v)) ↔ ∀ z, SeqS m m.first z → ∀ j, pS m P v (z j) ∨ ∃ k, k < j ∧ pS m P u (z k) :=
  holds_seq (φ := fun z => ∀ j, pS m P v (z j) ∨ ∃ k, k < j ∧ pS m P u (z k)) fun n back x hb => by
    rw [sat_rel]
    simp only [wdOf_n]
    unfold RelP
    exact forall_congr' fun j => or_congr (sat_prop (nxtN_lt hb j 0 (by omega))) (exists_congr fun k => and_congr Iff.rfl (sat_prop (nxtN_lt hb k 0 (by omega))))
theorem holds_gf (v : Int) : HoldsR m P (.n1 18 0 (.n1 17 0 (.n0 13 v))) ↔ ∀ z, SeqS m m.first z → ∀ j, ∃ k, pS m P v (z (j + k)) :=
  holds_seq (φ := fun z => ∀ j, ∃ k, pS m P v (z (j + k))) fun n back x hb => by
    rw [sat_glo]
    simp only [sat_fin, wdOf_n, ← nxtN_add]
    exact forall_congr' fun j => exists_congr fun k => sat_prop (nxtN_lt hb (j + k) 0 (by omega))
theorem holds_fg (v : Int) : HoldsR m P (.n1 17 0 (.n1 18 0 (.n0 13 v))) ↔ ∀ z, SeqS m m.first z → ∃ j, ∀ k, pS m P v (z (j + k)) :=
  holds_seq (φ := fun z => ∃ j, ∀ k, pS m P v (z (j + k))) fun n back x hb => by
    rw [sat_fin]
    simp only [sat_glo, wdOf_n, ← nxtN_add]
    exact exists_congr fun j => forall_congr' fun k => sat_prop (nxtN_lt hb (j + k) 0 (by omega))

variable {N : Nat} (hN : ∀ c d, InN N c → NextP m c d → InN N d) (hF : InN N m.first) (hT : ∀ c, ∃ d, NextP m c d)
include hN hF

theorem ever_law (v : Int) : HoldsR m P (.n1 17 0 (.n0 13 v)) ↔ ¬ StayS m (fun c => ¬ pS m P v c) m.first := by
  rw [holds_fin]
  constructor
  · intro h hs
    obtain ⟨z, hz, ha⟩ := hs.seq hN hF
    obtain ⟨k, hk⟩ := h z hz
    exact ha k hk
  · intro h z hz
    apply Classical.byContradiction
    intro hno
    refine h ?_
    have := hz.stay (A := fun c => ¬ pS m P v c) 0 fun k hk => hno ⟨0 + k, hk⟩
    rwa [hz.zero] at this

include hT
/-- Each state begins some run. -/
theorem seq_any {c : Int} (hc : InN N c) : ∃ z, SeqS m c z := by
  have _ := hF
  obtain ⟨z, hz, _⟩ := StayS.seq (c := c) (A := fun _ => True) hN hc ⟨fun _ => True, trivial, fun d _ => ⟨trivial, by obtain ⟨e, he⟩ := hT d; exact ⟨e, he, trivial⟩⟩⟩
  exact ⟨z, hz⟩

theorem until_law (u v : Int) : HoldsR m P (.n2 15 0 (.n0 13 u) (.n0 13 v)) ↔ ¬ LeadS m (fun c => ¬ pS m P v c ∧ pS m P u c) (fun c => ¬ pS m P v c ∧ ¬ pS m P u c) m.first ∧ ¬ StayS m (fun c => ¬ pS m P v c ∧ pS m P u c) m.first := by
  rw [holds_unt]
  constructor
  · intro h
    refine ⟨fun hl => ?_, fun hs => ?_⟩
    · obtain ⟨z, j, d, hz, ha, ⟨⟨hb1, hb2⟩, _⟩, hq⟩ := (hl.inr hN hF).seq (Q := fun d z => z 0 = d) fun d hd => by
        obtain ⟨z, hz⟩ := seq_any hN hF hT hd.2
        exact ⟨z, hz, hz.zero⟩
      simp only [Nat.add_zero] at hq
      obtain ⟨i, hi1, hi2⟩ := h z hz
      by_cases hij : i < j
      · exact (ha i hij).1 hi1
      · by_cases e : i = j
        · subst e; rw [hq] at hi1; exact hb1 hi1
        · have := hi2 j (by omega)
          rw [hq] at this
          exact hb2 this
    · obtain ⟨z, hz, ha⟩ := hs.seq hN hF
      obtain ⟨i, hi1, _⟩ := h z hz
      exact (ha i).1 hi1
  · rintro ⟨h1, h2⟩ z hz
    by_cases hall : ∀ k, ¬ pS m P v (z k) ∧ pS m P u (z k)
    · refine absurd ?_ h2
      have := hz.stay (A := fun c => ¬ pS m P v c ∧ pS m P u c) 0 fun k => hall (0 + k)
      rwa [hz.zero] at this
    · obtain ⟨j, hj, hmin⟩ : ∃ j, ¬ (¬ pS m P v (z j) ∧ pS m P u (z j)) ∧ ∀ k, k < j → ¬ pS m P v (z k) ∧ pS m P u (z k) := by
        obtain ⟨j0, hj0⟩ := Classical.not_forall.1 hall
        have key : ∀ b a, a ≤ b → ¬ (¬ pS m P v (z a) ∧ pS m P u (z a)) → ∃ j, ¬ (¬ pS m P v (z j) ∧ pS m P u (z j)) ∧ ∀ k, k < j → ¬ pS m P v (z k) ∧ pS m P u (z k) := by
          intro b
          induction b with
          | zero => intro a ha hna; exact ⟨a, hna, fun k hk => by omega⟩
          | succ b ih =>
            intro a ha hna
            by_cases hq : ∃ k, k < a ∧ ¬ (¬ pS m P v (z k) ∧ pS m P u (z k))
            · obtain ⟨k, hk, hnk⟩ := hq
              exact ih k (by omega) hnk
            · exact ⟨a, hna, fun k hk => Classical.byContradiction fun hn => hq ⟨k, hk, hn⟩⟩
        exact key j0 j0 (Nat.le_refl _) hj0
      by_cases hv : pS m P v (z j)
      · exact ⟨j, hv, fun k hk => (hmin k hk).2⟩
      · refine absurd ?_ h1
        have hu : ¬ pS m P u (z j) := fun hu => hj ⟨hv, hu⟩
        have := hz.lead (A := fun c => ¬ pS m P v c ∧ pS m P u c) (B := fun c => ¬ pS m P v c ∧ ¬ pS m P u c) j 0 (fun k _ hk => hmin k (by omega)) (by rw [Nat.zero_add]; exact ⟨hv, hu⟩)
        rwa [hz.zero] at this

theorem release_law (u v : Int) : HoldsR m P (.n2 16 0 (.n0 13 u) (.n0 13 v)) ↔ ¬ LeadS m (fun c => ¬ pS m P u c) (fun c => ¬ pS m P v c) m.first := by
  rw [holds_rel]
  constructor
  · intro h hl
    obtain ⟨z, j, d, hz, ha, ⟨hb, _⟩, hq⟩ := (hl.inr hN hF).seq (Q := fun d z => z 0 = d) fun d hd => by
      obtain ⟨z, hz⟩ := seq_any hN hF hT hd.2
      exact ⟨z, hz, hz.zero⟩
    simp only [Nat.add_zero] at hq
    rcases h z hz j with h | ⟨k, hk, h⟩
    · rw [hq] at h; exact hb h
    · exact ha k hk h
  · intro h z hz j
    by_cases hv : pS m P v (z j)
    · exact .inl hv
    · right
      apply Classical.byContradiction
      intro hno
      refine h ?_
      have := hz.lead (A := fun c => ¬ pS m P u c) (B := fun c => ¬ pS m P v c) j 0 (fun k _ hk hu => hno ⟨k, by omega, hu⟩) (by rw [Nat.zero_add]; exact hv)
      rwa [hz.zero] at this

theorem again_law (v : Int) : HoldsR m P (.n1 18 0 (.n1 17 0 (.n0 13 v))) ↔ ¬ LeadS m (fun _ => True) (StayS m fun c => ¬ pS m P v c) m.first := by
  have _ := hT
  rw [holds_gf]
  constructor
  · intro h hl
    obtain ⟨z, j, d, hz, _, _, hq⟩ := (hl.inr hN hF).seq (Q := fun _ z => ∀ k, ¬ pS m P v (z k)) fun d hd => hd.1.seq hN hd.2
    obtain ⟨k, hk⟩ := h z hz j
    exact hq k hk
  · intro h z hz j
    apply Classical.byContradiction
    intro hno
    refine h ?_
    have h1 := hz.stay (A := fun c => ¬ pS m P v c) j fun k hk => hno ⟨k, hk⟩
    have := hz.lead (A := fun _ => True) (B := StayS m fun c => ¬ pS m P v c) j 0 (fun _ _ _ => trivial) (by rw [Nat.zero_add]; exact h1)
    rwa [hz.zero] at this

theorem settles_law (v : Int) : HoldsR m P (.n1 17 0 (.n1 18 0 (.n0 13 v))) ↔ ¬ LeadS m (fun _ => True) (fun c => ¬ pS m P v c ∧ ∃ d, NextP m c d ∧ LeadS m (fun _ => True) (fun e => e = c) d) m.first := by
  have _ := hT
  have _ := hN
  have _ := hF
  rw [holds_fg]
  constructor
  · intro h hl
    obtain ⟨z, j, d, hz, _, hd, hq⟩ := hl.seq (Q := fun d z => ∀ K, ∃ k, K ≤ k ∧ z k = d) fun d hd => by
      obtain ⟨_, e, he, hle⟩ := hd
      exact LeadS.round he hle
    obtain ⟨i, hi⟩ := h z hz
    obtain ⟨k, hk, e⟩ := hq i
    have e2 : z (j + k) = d := e
    have := hi (j + k - i)
    rw [show i + (j + k - i) = j + k by omega, e2] at this
    exact hd.1 this
  · intro h z hz
    apply Classical.byContradiction
    intro hno
    refine h ?_
    have hA : ∀ K, ∃ k, K ≤ k ∧ ¬ pS m P v (z k) := by
      intro K
      apply Classical.byContradiction
      intro hn
      exact hno ⟨K, fun k => Classical.byContradiction fun hp => hn ⟨K + k, by omega, hp⟩⟩
    obtain ⟨k, hk, j, hj, e⟩ := hz.again (A := fun c => ¬ pS m P v c) hA
    have h2 := hz.lead (A := fun _ => True) (B := fun e => e = z k) (j - 1) (k + 1) (fun _ _ _ => trivial) (by rw [show k + 1 + (j - 1) = k + j by omega]; exact e)
    have := hz.lead (A := fun _ => True) (B := fun c => ¬ pS m P v c ∧ ∃ d, NextP m c d ∧ LeadS m (fun _ => True) (fun e => e = c) d) k 0 (fun _ _ _ => trivial) (by rw [Nat.zero_add]; exact ⟨hk, z (k + 1), hz.step k, h2⟩)
    rwa [hz.zero] at this
end

end Go.Proofs.YtbmimdnpchldlaaGreatDoor

namespace Go.Proofs.YtbmimdnpchldlaaGreatDoor

/-- From which spots one can stay in what is allowed. -/
def StayI (next : List (List Int)) (al : List Bool) (c : Nat) : Prop := ∃ S : Nat → Prop, S c ∧ ∀ d, S d → al[d]? = some true ∧ ∃ e, Edge next d e ∧ S e
/-- From which spots one can come, through what is allowed, to what is wanted. -/
inductive LeadI (next : List (List Int)) (al wa : List Bool) : Nat → Prop
  | here {c : Nat} : wa[c]? = some true → LeadI next al wa c
  | step {c d : Nat} : al[c]? = some true → Edge next c d → LeadI next al wa d → LeadI next al wa c

structure GInv (next : List (List Int)) (al inn : List Bool) : Prop where
  len : inn.length = al.length
  sub : ∀ c : Nat, inn[c]? = some true → al[c]? = some true
  sup : ∀ c : Nat, StayI next al c → inn[c]? = some true
structure LInv (next : List (List Int)) (al wa inn : List Bool) : Prop where
  len : inn.length = wa.length
  sub : ∀ c : Nat, inn[c]? = some true → LeadI next al wa c
  sup : ∀ c : Nat, wa[c]? = some true → inn[c]? = some true

section
variable {next : List (List Int)} {al wa inn : List Bool}
theorem GInv.start (next : List (List Int)) (al : List Bool) : GInv next al al := ⟨rfl, fun _ h => h, fun c h => by
  obtain ⟨S, hc, hS⟩ := h
  exact (hS c hc).1⟩
theorem GInv.drop (h : GInv next al inn) {c : Nat} (hno : ∀ e, Edge next c e → inn[e]? ≠ some true) : GInv next al (inn.set c false) := by
  refine ⟨by simp [h.len], fun d hd => ?_, fun d hd => ?_⟩
  · rw [List.getElem?_set] at hd
    split at hd
    · split at hd <;> simp at hd
    · exact h.sub d hd
  · rw [List.getElem?_set]
    split
    · rename_i e
      subst e
      obtain ⟨S, hc, hS⟩ := hd
      obtain ⟨_, e, he, hse⟩ := hS c hc
      exact absurd (h.sup e ⟨S, hse, hS⟩) (hno e he)
    · exact h.sup d hd
theorem GInv.done (h : GInv next al inn) (hp : ∀ c : Nat, inn[c]? = some true → ∃ e, Edge next c e ∧ inn[e]? = some true) (c : Nat) : inn[c]? = some true ↔ StayI next al c :=
  ⟨fun hc => ⟨fun d => inn[d]? = some true, hc, fun d hd => ⟨h.sub d hd, hp d hd⟩⟩, h.sup c⟩
theorem LInv.start (next : List (List Int)) (al wa : List Bool) : LInv next al wa wa := ⟨rfl, fun _ h => .here h, fun _ h => h⟩
theorem LInv.add (h : LInv next al wa inn) {c e : Nat} (ha : al[c]? = some true) (he : Edge next c e) (hi : inn[e]? = some true) : LInv next al wa (inn.set c true) := by
  refine ⟨by simp [h.len], fun d hd => ?_, fun d hd => ?_⟩
  · rw [List.getElem?_set] at hd
    split at hd
    · rename_i e2
      subst e2
      exact .step ha he (h.sub e hi)
    · exact h.sub d hd
  · rw [List.getElem?_set]
    have h1 := h.sup d hd
    split
    · rename_i e2
      subst e2
      rw [if_pos (List.getElem?_eq_some_iff.1 h1).1]
    · exact h1
theorem LInv.done (h : LInv next al wa inn) (hp : ∀ c : Nat, al[c]? = some true → ∀ e, Edge next c e → inn[e]? = some true → inn[c]? = some true) (c : Nat) : inn[c]? = some true ↔ LeadI next al wa c :=
  ⟨h.sub c, fun hl => by
    induction hl with
    | here hw => exact h.sup _ hw
    | step ha he _ ih => exact hp _ ha _ he ih⟩
theorem count_drop : ∀ (l : List Bool) (c : Nat), l[c]? = some true → (l.set c false).count true + 1 = l.count true
  | b :: l, 0, h => by simp at h; subst h; simp
  | b :: l, c + 1, h => by
    have := count_drop l c (by simpa using h)
    simp only [List.set_cons_succ, List.count_cons]
    omega
end

/-! States and spots. -/
/-- The next states of all states. -/
def nextA (m : Md) (N : Nat) : List (List Int) := (List.range N).map fun c : Nat => nextL m (c : Int)
theorem nextA_edge {m : Md} {N : Nat} {c d : Nat} : Edge (nextA m N) c d ↔ c < N ∧ NextP m (c : Int) (d : Int) := by
  unfold Edge nextA
  constructor
  · rintro ⟨l, h1, h2⟩
    rw [List.getElem?_map] at h1
    by_cases hc : c < N
    · rw [List.getElem?_range hc] at h1
      simp at h1
      subst h1
      exact ⟨hc, ((nextL_ok m c).mem d).1 h2⟩
    · rw [List.getElem?_eq_none (by simp; omega)] at h1
      cases h1
  · rintro ⟨hc, h⟩
    exact ⟨nextL m c, by rw [List.getElem?_map, List.getElem?_range hc]; rfl, ((nextL_ok m c).mem d).2 h⟩

/-- A set of states, state by state. -/
def MarksS (N : Nat) (l : List Bool) (A : Int → Prop) : Prop := l.length = N ∧ ∀ c : Nat, c < N → (l[c]? = some true ↔ A (c : Int))

section
variable {m : Md} {N : Nat} (hN : ∀ c d, InN N c → NextP m c d → InN N d)
include hN
theorem stay_marks {al inn : List Bool} {A : Int → Prop} (hA : MarksS N al A) (h : ∀ c : Nat, inn[c]? = some true ↔ StayI (nextA m N) al c) (hl : inn.length = N) : MarksS N inn (StayS m A) := by
  refine ⟨hl, fun c hc => (h c).trans ?_⟩
  constructor
  · rintro ⟨S, h1, h2⟩
    refine ⟨fun d => ∃ k : Nat, d = (k : Int) ∧ S k, ⟨c, rfl, h1⟩, ?_⟩
    rintro d ⟨k, rfl, hk⟩
    obtain ⟨g1, e, g2, g3⟩ := h2 k hk
    have hkN : k < N := by have := (List.getElem?_eq_some_iff.1 g1).1; rw [hA.1] at this; exact this
    exact ⟨(hA.2 k hkN).1 g1, (e : Int), (nextA_edge.1 g2).2, e, rfl, g3⟩
  · rintro ⟨S, h1, h2⟩
    refine ⟨fun k => k < N ∧ S (k : Int), ⟨hc, h1⟩, fun k hk => ?_⟩
    obtain ⟨g1, e, g2, g3⟩ := h2 _ hk.2
    have he := hN _ _ ⟨by omega, by omega⟩ g2
    obtain ⟨e', rfl⟩ : ∃ e' : Nat, e = (e' : Int) := ⟨e.toNat, by have := he.1; omega⟩
    have he2 : e' < N := by have := he.2; omega
    exact ⟨(hA.2 k hk.1).2 g1, e', nextA_edge.2 ⟨hk.1, g2⟩, he2, g3⟩
theorem lead_marks {al wa inn : List Bool} {A B : Int → Prop} (hA : MarksS N al A) (hB : MarksS N wa B) (h : ∀ c : Nat, inn[c]? = some true ↔ LeadI (nextA m N) al wa c) (hl : inn.length = N) : MarksS N inn (LeadS m A B) := by
  refine ⟨hl, fun c hc => (h c).trans ?_⟩
  constructor
  · intro h
    clear hc
    induction h with
    | @here c hw =>
      have hcN : c < N := by have := (List.getElem?_eq_some_iff.1 hw).1; rw [hB.1] at this; exact this
      exact .here ((hB.2 c hcN).1 hw)
    | @step c d ha he _ ih =>
      have hcN : c < N := by have := (List.getElem?_eq_some_iff.1 ha).1; rw [hA.1] at this; exact this
      exact .step ((hA.2 c hcN).1 ha) (nextA_edge.1 he).2 ih
  · intro h
    obtain ⟨x, hx⟩ : ∃ x, (c : Int) = x := ⟨_, rfl⟩
    rw [hx] at h
    induction h generalizing c with
    | here hb =>
      subst hx
      exact .here ((hB.2 c hc).2 hb)
    | @step a d ha hn _ ih =>
      subst hx
      have hd := hN _ _ ⟨by omega, by omega⟩ hn
      obtain ⟨d', rfl⟩ : ∃ d' : Nat, d = (d' : Int) := ⟨d.toNat, by have := hd.1; omega⟩
      have hd2 : d' < N := by have := hd.2; omega
      exact .step ((hA.2 c hc).2 ha) (nextA_edge.2 ⟨hc, hn⟩) (ih d' hd2 rfl)
end

end Go.Proofs.YtbmimdnpchldlaaGreatDoor

namespace Go.Proofs.YtbmimdnpchldlaaGreatDoor
open Go.RowKit

/-- What is reached from the first state. -/
inductive ReachS (m : Md) : Int → Prop
  | first : ReachS m m.first
  | next {c d : Int} : ReachS m c → NextP m c d → ReachS m d

theorem first_bd {m : Md} (h : m.Pre) : 0 ≤ m.first ∧ m.first < countL m.vars := codeL_bd h.vars (inits_in h.vars)
theorem ReachS.bd {m : Md} (h : m.Pre) {c : Int} (hc : ReachS m c) : 0 ≤ c ∧ c < countL m.vars := by
  induction hc with
  | first => exact first_bd h
  | next _ hn ih => exact NextP.in h ih.1 ih.2 hn

theorem nodup_bound : ∀ (n : Nat) {l : List Int}, l.Nodup → (∀ x ∈ l, 0 ≤ x ∧ x < (n : Int)) → l.length ≤ n
  | 0, l, _, h => by
    cases l with
    | nil => simp
    | cons x r => have := h x (by simp); omega
  | n + 1, l, hn, h => by
    by_cases hm : (n : Int) ∈ l
    · have h1 := nodup_bound n (l := l.erase (n : Int)) (hn.erase _) fun x hx => by
        have h2 := hn.mem_erase_iff.1 hx
        have h3 := h x h2.2
        have h4 := h2.1
        omega
      rw [List.length_erase_of_mem hm] at h1
      omega
    · have h1 := nodup_bound n hn fun x hx => by
        have h3 := h x hx
        have : x ≠ (n : Int) := fun e => hm (e ▸ hx)
        omega
      omega

/-- The list while it grows: what lies ahead of i has all its next ones in it. -/
structure RInv (m : Md) (l : List Int) (i : Nat) : Prop where
  nd : l.Nodup
  rs : ∀ c ∈ l, ReachS m c
  fi : m.first ∈ l
  le : i ≤ l.length
  cl : ∀ j (h : j < l.length), j < i → ∀ d, NextP m l[j] d → d ∈ l

theorem RInv.done {m : Md} {l : List Int} (h : RInv m l l.length) (c : Int) : c ∈ l ↔ ReachS m c := by
  refine ⟨h.rs c, fun hc => ?_⟩
  induction hc with
  | first => exact h.fi
  | next _ hn ih =>
    obtain ⟨j, hj, e⟩ := List.mem_iff_getElem.1 ih
    subst e
    exact h.cl j hj hj _ hn
theorem RInv.start (m : Md) : RInv m [m.first] 0 := ⟨by simp, by intro c hc; simp at hc; subst hc; exact .first, by simp, by simp, by intro j _ h; omega⟩
theorem RInv.add {m : Md} {l : List Int} {i : Nat} (h : RInv m l i) {d : Int} (hd : ReachS m d) (hn : d ∉ l) : RInv m (l ++ [d]) i where
  nd := by
    rw [List.nodup_append]
    refine ⟨h.nd, by simp, ?_⟩
    intro a ha b hb e
    simp at hb
    subst hb; subst e
    exact hn ha
  rs := by
    intro c hc
    rcases List.mem_append.1 hc with hc | hc
    · exact h.rs c hc
    · simp at hc; subst hc; exact hd
  fi := List.mem_append_left _ h.fi
  le := by have := h.le; simp; omega
  cl := by
    intro j hj hji x hx
    by_cases hl : j < l.length
    · rw [List.getElem_append_left hl] at hx
      exact List.mem_append_left _ (h.cl j hl hji x hx)
    · have := h.le; omega

end Go.Proofs.YtbmimdnpchldlaaGreatDoor

namespace Go.Proofs.YtbmimdnpchldlaaGreatDoor

/-- The verdict, as a bool. -/
noncomputable def holdsB (m : Md) (P : List Tm) (t : Tm) : Bool := @decide (HoldsR m P t) (Classical.propDecidable _)
theorem holdsB_iff {m : Md} {P : List Tm} {t : Tm} : holdsB m P t = true ↔ HoldsR m P t := by unfold holdsB; exact @decide_eq_true_iff _ (Classical.propDecidable _)
theorem holdsB_eq {m : Md} {P : List Tm} {t : Tm} {b : Bool} (h : HoldsR m P t ↔ b = true) : holdsB m P t = b := by
  have := holdsB_iff.trans h
  cases b <;> cases hx : holdsB m P t <;> simp_all
theorem HoldsR.mono {m : Md} {P : List Tm} {a b : Tm} (h : ∀ W : Wd, W.back < W.n → Sat W a 0 → Sat W b 0) (ha : HoldsR m P a) : HoldsR m P b :=
  fun n back x hr => h _ (by rw [wdOf_n]; exact hr.hb) (ha n back x hr)
theorem holdsB_mono {m : Md} {P : List Tm} {a b : Tm} (h : ∀ W : Wd, W.back < W.n → Sat W a 0 → Sat W b 0) (ha : holdsB m P a = true) : holdsB m P b = true :=
  holdsB_iff.2 ((holdsB_iff.1 ha).mono h)
theorem holdsB_congr {m : Md} {P : List Tm} {a b : Tm} (h : ∀ W : Wd, satB W a 0 = satB W b 0) : holdsB m P b = holdsB m P a := by
  refine holdsB_eq ?_
  rw [holdsB_iff]
  exact ⟨HoldsR.mono fun W _ hs => satB_iff.1 ((h W).trans (satB_iff.2 hs)), HoldsR.mono fun W _ hs => satB_iff.1 ((h W).symm.trans (satB_iff.2 hs))⟩

theorem codes_in {m : Md} (hp : m.Pre) {N : Nat} (hN : countL m.vars = (N : Int)) : (∀ c d, InN N c → NextP m c d → InN N d) ∧ InN N m.first := by
  refine ⟨fun c d hc hn => ?_, ?_⟩
  · have := NextP.in hp hc.1 (by rw [hN]; exact hc.2) hn
    exact ⟨this.1, by rw [← hN]; exact this.2⟩
  · have := first_bd hp
    exact ⟨this.1, by rw [← hN]; exact this.2⟩
/-- There is a run. -/
theorem run_any {m : Md} (hp : m.Pre) : ∃ n back x, RunL m n back x := by
  have h1 := first_bd hp
  obtain ⟨N, hN⟩ : ∃ N : Nat, countL m.vars = (N : Int) := ⟨(countL m.vars).toNat, by omega⟩
  obtain ⟨hc, hF⟩ := codes_in hp hN
  obtain ⟨z, n, back, x, hl, _⟩ := seq_any (m := m) hc hF (NextP.some m) hF
  exact ⟨n, back, x, hl.hb, hl.first, hl.step⟩

theorem holdsB_yes (m : Md) (P : List Tm) (v : Int) : holdsB m P (.n0 11 v) = true := holdsB_iff.2 fun _ _ _ _ => satB_iff.1 (satB_yes _ _ _)
theorem holdsB_no {m : Md} (hp : m.Pre) (P : List Tm) (v : Int) : holdsB m P (.n0 12 v) = false := by
  refine holdsB_eq ⟨fun h => ?_, fun h => by cases h⟩
  obtain ⟨n, back, x, hr⟩ := run_any hp
  have h1 := satB_iff.2 (h n back x hr)
  rw [satB_no] at h1
  exact h1
theorem holdsB_and (m : Md) (P : List Tm) (v : Int) (a b : Tm) : holdsB m P (.n2 8 v a b) = (holdsB m P a && holdsB m P b) := by
  refine holdsB_eq ?_
  rw [Bool.and_eq_true, holdsB_iff, holdsB_iff]
  exact ⟨fun h => ⟨fun n b x hr => ((sat_and _ _ _ _ _).1 (h n b x hr)).1, fun n b x hr => ((sat_and _ _ _ _ _).1 (h n b x hr)).2⟩, fun h n b x hr => (sat_and _ _ _ _ _).2 ⟨h.1 n b x hr, h.2 n b x hr⟩⟩

/-- Of what holds always, and of what holds now. -/
theorem glo_now {m : Md} {P : List Tm} {v : Int} {f : Tm} (h : holdsB m P (.n1 18 v f) = true) : holdsB m P f = true :=
  holdsB_mono (fun W _ hs => by have := (sat_glo _ _ _ _).1 hs 0; exact this) h
theorem glo_next {m : Md} {P : List Tm} {v v2 : Int} {f : Tm} (h : holdsB m P (.n1 18 v f) = true) : holdsB m P (.n1 14 v2 f) = true :=
  holdsB_mono (fun W _ hs => (sat_next _ _ _ _).2 (by have := (sat_glo _ _ _ _).1 hs 1; exact this)) h
theorem now_ever {m : Md} {P : List Tm} {v : Int} {f : Tm} (h : holdsB m P f = true) : holdsB m P (.n1 17 v f) = true :=
  holdsB_mono (fun _ _ hs => (sat_fin _ _ _ _).2 ⟨0, hs⟩) h
theorem unt_ever {m : Md} {P : List Tm} {v v2 : Int} {f g : Tm} (h : holdsB m P (.n2 15 v f g) = true) : holdsB m P (.n1 17 v2 g) = true :=
  holdsB_mono (fun W _ hs => by obtain ⟨j, hj, _⟩ := (sat_unt _ _ _ _ _).1 hs; exact (sat_fin _ _ _ _).2 ⟨j, hj⟩) h
theorem rel_now {m : Md} {P : List Tm} {v : Int} {f g : Tm} (h : holdsB m P (.n2 16 v f g) = true) : holdsB m P g = true :=
  holdsB_mono (fun W _ hs => by
    rcases (sat_rel _ _ _ _ _).1 hs 0 with h | ⟨k, hk, _⟩
    · exact h
    · omega) h
theorem glo_rel {m : Md} {P : List Tm} {v v2 : Int} {f g : Tm} (h : holdsB m P (.n1 18 v g) = true) : holdsB m P (.n2 16 v2 f g) = true :=
  holdsB_mono (fun _ _ hs => (sat_rel _ _ _ _ _).2 fun j => .inl ((sat_glo _ _ _ _).1 hs j)) h
theorem now_until {m : Md} {P : List Tm} {v : Int} {f g : Tm} (h : holdsB m P g = true) : holdsB m P (.n2 15 v f g) = true :=
  holdsB_mono (fun W _ hs => (sat_unt _ _ _ _ _).2 ⟨0, hs, fun k hk => by omega⟩) h
theorem ever_unt (W : Wd) (f : Tm) (v v2 v3 : Int) (i : Nat) : satB W (.n1 17 v f) i = satB W (.n2 15 v2 (.n0 11 v3) f) i := satB_congr (by
  rw [sat_fin, sat_unt]
  exact ⟨fun ⟨j, h⟩ => ⟨j, h, fun _ _ => satB_iff.1 (satB_yes _ _ _)⟩, fun ⟨j, h, _⟩ => ⟨j, h⟩⟩)

end Go.Proofs.YtbmimdnpchldlaaGreatDoor

namespace Go.Proofs.YtbmimdnpchldlaaGreatDoor
open Go.RowKit

/-- A formula over three propositions: at most so long, with at most so many ops that look ahead. -/
structure Fm (t : Tm) (m c : Nat) : Prop where
  ok : t.ok
  fit : ∀ o ∈ t.flat, FitOp 3 o
  size : t.size ≤ m
  cnt : cntA t.flat ≤ c
theorem Fm.isF {t : Tm} {m c : Nat} (h : Fm t m c) (hm : m ≤ 60) (hc : c ≤ 6) : IsF t.flat 3 t := ⟨h.ok, rfl, by have := h.size; omega, h.fit, by have := h.cnt; omega, by omega, by omega⟩
theorem Fm.one {t : Tm} {m c : Nat} (h : Fm t m c) (k : Int) (m' c' : Nat) (hk : (k = 10 ∧ c ≤ c') ∨ ((k = 14 ∨ k = 17 ∨ k = 18) ∧ c + 1 ≤ c')) (hm : m + 1 ≤ m') : Fm (.n1 k 0 t) m' c' := by
  have hk2 : k = 10 ∨ k = 14 ∨ k = 17 ∨ k = 18 := by omega
  refine ⟨⟨by omega, by omega, by unfold partsOf; rw [if_neg (by omega), if_pos (by omega)], h.ok⟩, ?_, by have := h.size; simp only [Tm.size]; omega, ?_⟩
  · intro o ho
    rcases List.mem_cons.1 ho with rfl | ho
    · exact ⟨by simp only; omega, by simp only; omega, fun h => by simp only at h; omega, fun _ => rfl⟩
    · exact h.fit o ho
  · have := h.cnt
    simp only [Tm.flat, cntA]
    rcases hk with ⟨rfl, h1⟩ | ⟨h1, h2⟩
    · simp [aheadB]; omega
    · split <;> omega
theorem Fm.two {a b : Tm} {m c n d : Nat} (h : Fm a m c) (g : Fm b n d) (k : Int) (m' c' : Nat) (hk : ((k = 8 ∨ k = 9) ∧ c + d ≤ c') ∨ ((k = 15 ∨ k = 16) ∧ c + d + 1 ≤ c')) (hm : m + n + 1 ≤ m') : Fm (.n2 k 0 a b) m' c' := by
  have hk2 : k = 8 ∨ k = 9 ∨ k = 15 ∨ k = 16 := by omega
  refine ⟨⟨by omega, by omega, by unfold partsOf; rw [if_pos (by omega)], h.ok, g.ok⟩, ?_, by have := h.size; have := g.size; simp only [Tm.size]; omega, ?_⟩
  · intro o ho
    rcases List.mem_cons.1 ho with rfl | ho
    · exact ⟨by simp only; omega, by simp only; omega, fun h => by simp only at h; omega, fun _ => rfl⟩
    · rcases List.mem_append.1 ho with ho | ho
      · exact h.fit o ho
      · exact g.fit o ho
  · have := h.cnt
    have := g.cnt
    simp only [Tm.flat, cntA, cntA_app]
    rcases hk with ⟨h1, h2⟩ | ⟨h1, h2⟩
    · rw [if_neg (by unfold aheadB; simp only [decide_eq_true_eq]; omega)]; omega
    · split <;> omega
theorem fm_yes : Fm (.n0 11 0) 1 0 := ⟨⟨by omega, by omega, by decide⟩, fun o ho => by
  simp only [Tm.flat, List.mem_singleton] at ho
  subst ho
  exact ⟨by simp, by simp, fun h => by simp at h, fun _ => rfl⟩, Nat.le_refl _, by simp [Tm.flat, cntA, aheadB]⟩
theorem fm_for (raw : List Op2) (k : Nat) : Fm (forO raw 3 k) 17 k := by
  have h1 := fT_small raw 3 4 k
  have h2 := fT_cnt raw 3 4 0 k
  exact ⟨fT_ok raw 3 4 0 k, fT_fit raw 3 4 0 k, by unfold forO; omega, by unfold forO; omega⟩

/-- Two cells of a box. -/
theorem two_later {w w' : World} {g : Nat} {u v : Value} (hb : Ext w w') (h : w.cell? ⟨g, 0, none⟩ = some u ∧ w.cell? ⟨g, 1, none⟩ = some v) : w'.cell? ⟨g, 0, none⟩ = some u ∧ w'.cell? ⟨g, 1, none⟩ = some v :=
  ⟨cell_later hb h.1, cell_later hb h.2⟩
theorem two_alloc {w : World} {o : Obj} {g : Nat} {u v : Value} (h : w.cell? ⟨g, 0, none⟩ = some u ∧ w.cell? ⟨g, 1, none⟩ = some v) : (w.alloc o).cell? ⟨g, 0, none⟩ = some u ∧ (w.alloc o).cell? ⟨g, 1, none⟩ = some v := two_later (ext_al (Ext.refl w) o) h
theorem two_drew {w : World} {g : Nat} {u v : Value} (h : w.cell? ⟨g, 0, none⟩ = some u ∧ w.cell? ⟨g, 1, none⟩ = some v) : w.drew.cell? ⟨g, 0, none⟩ = some u ∧ w.drew.cell? ⟨g, 1, none⟩ = some v := two_later (Below.drew (Ext.refl w)) h
/-- joined behind a region's draw. -/
theorem joinD2 (k : Int) (va vb : Value) (a b : Tm) (w : World) (T : TypeId) (ha : IsT w va a) (hb : IsT w vb b) (hl : a.size + b.size ≤ 10000) :
    Calls Tryz.prog 58 #[.int .i64 k, .slice (some ⟨w.heap.size, 0, none⟩) 2 2] (w.alloc (.cells #[va, vb] T)).drew fun e w' => ∃ v', e = .returned v' ∧ IsT w' v' (.n2 k 0 a b) ∧ Ext w w' :=
  (joinT2 k va vb a b w.drew T (ha.ext (Below.drew (Ext.refl w))) (hb.ext (Below.drew (Ext.refl w))) hl).mono fun _ _ ⟨v, h1, h2, h3⟩ => ⟨v, h1, h2, (Below.drew (Ext.refl w)).trans h3⟩
theorem joinD1 (k : Int) (va : Value) (a : Tm) (w : World) (T : TypeId) (ha : IsT w va a) (hl : a.size ≤ 10000) :
    Calls Tryz.prog 58 #[.int .i64 k, .slice (some ⟨w.heap.size, 0, none⟩) 1 1] (w.alloc (.cells #[va] T)).drew fun e w' => ∃ v', e = .returned v' ∧ IsT w' v' (.n1 k 0 a) ∧ Ext w w' :=
  (joinT1 k va a w.drew T (ha.ext (Below.drew (Ext.refl w))) hl).mono fun _ _ ⟨v, h1, h2, h3⟩ => ⟨v, h1, h2, (Below.drew (Ext.refl w)).trans h3⟩

/-- A list of one term, laid for a call. -/
def IsL1 (w : World) (s : Value) (a : Tm) : Prop := OpsL w s [a.flat]
theorem IsL1.ext {w w' : World} {s : Value} {a : Tm} (h : IsL1 w s a) (hb : Ext w w') : IsL1 w' s a := by
  obtain ⟨vs, hl, hr, he⟩ := h
  exact ⟨vs, hl, hr.ext hb, fun i x l hx hl' => ops_ext (he i x l hx hl') hb⟩
theorem il1_new (w : World) (T : TypeId) (va : Value) (a : Tm) (ha : IsT w va a) : IsL1 (w.alloc (.cells #[va] T)) (.slice (some ⟨w.heap.size, 0, none⟩) 1 1) a :=
  opsL_new w T [va] [a.flat] rfl (by simp [maxLen]) (by
    intro i x l hx hl'
    match i with
    | 0 => simp at hx hl'; subst hx; subst hl'; exact ha
    | i + 1 => simp at hx)
theorem two_args (w : World) (T : TypeId) (va vb : Value) (a b : Tm) (ha : IsT w va a) (hb : IsT w vb b) :
    IsL1 ((w.alloc (.cells #[va] T)).alloc (.cells #[vb] T)).drew (.slice (some ⟨w.heap.size, 0, none⟩) 1 1) a ∧ IsL1 ((w.alloc (.cells #[va] T)).alloc (.cells #[vb] T)).drew (.slice (some ⟨w.heap.size + 1, 0, none⟩) 1 1) b ∧ Ext w ((w.alloc (.cells #[va] T)).alloc (.cells #[vb] T)).drew := by
  have h1 : Ext w (w.alloc (.cells #[va] T)) := (Ext.refl w).alloc (Nat.le_refl _) _
  have h2 : Ext (w.alloc (.cells #[va] T)) ((w.alloc (.cells #[va] T)).alloc (.cells #[vb] T)).drew := ((Ext.refl _).alloc (Nat.le_refl _) _).drew
  refine ⟨(il1_new w T va a ha).ext h2, ?_, h1.trans h2⟩
  have := (il1_new (w.alloc (.cells #[va] T)) T vb b (hb.ext h1)).ext (Below.drew (Ext.refl _))
  simpa using this
theorem joinS1 (k : Int) (s : Value) (a : Tm) (w : World) (hs : IsL1 w s a) (hl : a.size ≤ 10000) :
    Calls Tryz.prog 58 #[.int .i64 k, s] w fun e w' => ∃ v', e = .returned v' ∧ IsT w' v' (.n1 k 0 a) ∧ Ext w w' := by
  refine (joined_any k s [a.flat] w hs (by simp [Tm.flat_len]; omega) (by simp)).mono ?_
  rintro e w' ⟨v', rfl, hown, hx⟩
  have e : joinL k [a.flat] = (k, 0) :: a.flat := by simp [joinL]
  rw [e] at hown
  exact ⟨v', rfl, ops_own hown, hx⟩

end Go.Proofs.YtbmimdnpchldlaaGreatDoor

namespace Go.Proofs.YtbmimdnpchldlaaGreatDoor
open Go.RowKit

set_option maxHeartbeats 4000000 in
theorem kprops2_any (w : World) : Calls Tryz.prog 94 #[] w fun e w' => ∃ v, e = .returned v ∧ IsTms w' v propT ∧ Ext w w' := by
  have HK := Lib.hid (kprops_any w)
  go_enter Tryz.func94, Tryz.ntmps94
  go_wp2_with fail
  refine HK.out.mono ?_
  rintro e w' ⟨v, rfl, hv, hE⟩
  obtain ⟨a, c, rfl⟩ := EachL.val hv
  have HV := Lib.hid hv
  have HE := Lib.hid hE
  generalize propT.length = np at *
  clear hv hE
  go_wp2
  go_ret
  exact ⟨_, rfl, HV.out, HE.out⟩

set_option maxHeartbeats 4000000 in
theorem kpicked_any (n many : Int) (w : World) (h1 : -9223372036854775808 ≤ n) (h2 : n ≤ 9223372036854775807) (h3 : 0 < many) (h4 : many ≤ 1000000) :
    Calls Tryz.prog 31 #[.int .i64 n, .int .i64 many] w fun e w' => e = .returned (.int .i64 (pk n many)) ∧ w = w' := by
  have HK := Lib.hid (picked_any n many w h1 h2 (by omega) (by omega))
  clear h1 h2 h3 h4
  go_enter Tryz.func31, Tryz.ntmps31
  go_wp2_with fail
  refine HK.out.mono ?_
  rintro e w' ⟨rfl, rfl⟩
  go_wp2
  go_ret
  exact ⟨rfl, rfl⟩

set_option maxHeartbeats 4000000 in
/-- Joined, behind its wrapper. -/
theorem kjoined_any (k : Int) (s : Value) (w : World) (R : Ending → World → Prop) (h : Calls Tryz.prog 58 #[.int .i64 k, s] w R) (hs : ∃ a n c, s = .slice a n c) (hR : ∀ e w', R e w' → ∃ a n c, e = .returned (.slice a n c)) :
    Calls Tryz.prog 27 #[.int .i64 k, s] w R := by
  obtain ⟨a, n, c, rfl⟩ := hs
  have HJ := Lib.hid h
  have HR := Lib.hid hR
  clear h hR
  go_enter Tryz.func27, Tryz.ntmps27
  go_wp2_with fail
  refine HJ.out.mono ?_
  intro e w' hh
  obtain ⟨a, n, c, rfl⟩ := HR.out _ _ hh
  have HH := Lib.hid hh
  clear hh HJ HR
  go_wp2
  exact HH.out

/-- What joined answers, as a post that Joined bears too. -/
theorem kj_of {k : Int} {s : Value} {w w0 : World} {t : Tm} (h : Calls Tryz.prog 58 #[.int .i64 k, s] w fun e w' => ∃ v', e = .returned v' ∧ IsT w' v' t ∧ Ext w0 w') (hs : ∃ a n c, s = .slice a n c) :
    Calls Tryz.prog 27 #[.int .i64 k, s] w fun e w' => ∃ v', e = .returned v' ∧ IsT w' v' t ∧ Ext w0 w' :=
  kjoined_any k s w _ h hs fun e w' ⟨v, e1, h1, _⟩ => by obtain ⟨a, n, c, rfl⟩ := h1.val; exact ⟨a, n, c, e1⟩
theorem kT1 (k : Int) (va : Value) (a : Tm) (w : World) (T : TypeId) (ha : IsT w va a) (hl : a.size ≤ 10000) :
    Calls Tryz.prog 27 #[.int .i64 k, .slice (some ⟨w.heap.size, 0, none⟩) 1 1] (w.alloc (.cells #[va] T)) fun e w' => ∃ v', e = .returned v' ∧ IsT w' v' (.n1 k 0 a) ∧ Ext w w' :=
  kj_of (joinT1 k va a w T ha hl) ⟨_, _, _, rfl⟩
theorem kT2 (k : Int) (va vb : Value) (a b : Tm) (w : World) (T : TypeId) (ha : IsT w va a) (hb : IsT w vb b) (hl : a.size + b.size ≤ 10000) :
    Calls Tryz.prog 27 #[.int .i64 k, .slice (some ⟨w.heap.size, 0, none⟩) 2 2] (w.alloc (.cells #[va, vb] T)) fun e w' => ∃ v', e = .returned v' ∧ IsT w' v' (.n2 k 0 a b) ∧ Ext w w' :=
  kj_of (joinT2 k va vb a b w T ha hb hl) ⟨_, _, _, rfl⟩
theorem kD1 (k : Int) (va : Value) (a : Tm) (w : World) (T : TypeId) (ha : IsT w va a) (hl : a.size ≤ 10000) :
    Calls Tryz.prog 27 #[.int .i64 k, .slice (some ⟨w.heap.size, 0, none⟩) 1 1] (w.alloc (.cells #[va] T)).drew fun e w' => ∃ v', e = .returned v' ∧ IsT w' v' (.n1 k 0 a) ∧ Ext w w' :=
  kj_of (joinD1 k va a w T ha hl) ⟨_, _, _, rfl⟩
theorem kD2 (k : Int) (va vb : Value) (a b : Tm) (w : World) (T : TypeId) (ha : IsT w va a) (hb : IsT w vb b) (hl : a.size + b.size ≤ 10000) :
    Calls Tryz.prog 27 #[.int .i64 k, .slice (some ⟨w.heap.size, 0, none⟩) 2 2] (w.alloc (.cells #[va, vb] T)).drew fun e w' => ∃ v', e = .returned v' ∧ IsT w' v' (.n2 k 0 a b) ∧ Ext w w' :=
  kj_of (joinD2 k va vb a b w T ha hb hl) ⟨_, _, _, rfl⟩
theorem kS1 (k : Int) (s : Value) (a : Tm) (w : World) (hs : IsL1 w s a) (hl : a.size ≤ 10000) :
    Calls Tryz.prog 27 #[.int .i64 k, s] w fun e w' => ∃ v', e = .returned v' ∧ IsT w' v' (.n1 k 0 a) ∧ Ext w w' :=
  kj_of (joinS1 k s a w hs hl) (by obtain ⟨vs, _, ⟨a, c, e, _⟩, _⟩ := hs; exact ⟨a, _, c, e⟩)

/-- .. where the first term is yes, laid just ahead. -/
theorem kY2 (k : Int) (va : Value) (a : Tm) (w : World) (T T2 : TypeId) (ha : IsT w va a) (hl : a.size ≤ 9000) :
    Calls Tryz.prog 27 #[.int .i64 k, .slice (some ⟨w.heap.size + 1, 0, none⟩) 2 2] ((w.alloc (.cells #[.int .i64 11, .int .i64 0] T2)).alloc (.cells #[.slice (some ⟨w.heap.size, 0, none⟩) 1 1, va] T)).drew fun e w' => ∃ v', e = .returned v' ∧ IsT w' v' (.n2 k 0 (.n0 11 0) a) ∧ Ext w w' := by
  have hx := ext_al (Ext.refl w) (.cells #[.int .i64 11, .int .i64 0] T2)
  have h := kD2 k (.slice (some ⟨w.heap.size, 0, none⟩) 1 1) va (.n0 11 0) a (w.alloc (.cells #[.int .i64 11, .int .i64 0] T2)) T (isT_lit w T2 11 0 _ rfl) (ha.ext hx) (by simp only [Tm.size]; omega)
  rw [World.size_alloc] at h
  refine h.mono ?_
  rintro e w' ⟨v, h1, h2, h3⟩
  exact ⟨v, h1, h2, hx.trans h3⟩

/-- The seven cells of a design in its box. -/
theorem d7_later {w w' : World} {g : Nat} {a b c d e f k : Value} (hb : Ext w w') (h : w.cell? ⟨g, 0, none⟩ = some a ∧ w.cell? ⟨g, 1, none⟩ = some b ∧ w.cell? ⟨g, 2, none⟩ = some c ∧ w.cell? ⟨g, 3, none⟩ = some d ∧ w.cell? ⟨g, 4, none⟩ = some e ∧ w.cell? ⟨g, 5, none⟩ = some f ∧ w.cell? ⟨g, 6, none⟩ = some k) :
    w'.cell? ⟨g, 0, none⟩ = some a ∧ w'.cell? ⟨g, 1, none⟩ = some b ∧ w'.cell? ⟨g, 2, none⟩ = some c ∧ w'.cell? ⟨g, 3, none⟩ = some d ∧ w'.cell? ⟨g, 4, none⟩ = some e ∧ w'.cell? ⟨g, 5, none⟩ = some f ∧ w'.cell? ⟨g, 6, none⟩ = some k :=
  ⟨cell_later hb h.1, cell_later hb h.2.1, cell_later hb h.2.2.1, cell_later hb h.2.2.2.1, cell_later hb h.2.2.2.2.1, cell_later hb h.2.2.2.2.2.1, cell_later hb h.2.2.2.2.2.2⟩
theorem d7_alloc {w : World} {o : Obj} {g : Nat} {a b c d e f k : Value} (h : w.cell? ⟨g, 0, none⟩ = some a ∧ w.cell? ⟨g, 1, none⟩ = some b ∧ w.cell? ⟨g, 2, none⟩ = some c ∧ w.cell? ⟨g, 3, none⟩ = some d ∧ w.cell? ⟨g, 4, none⟩ = some e ∧ w.cell? ⟨g, 5, none⟩ = some f ∧ w.cell? ⟨g, 6, none⟩ = some k) :
    (w.alloc o).cell? ⟨g, 0, none⟩ = some a ∧ (w.alloc o).cell? ⟨g, 1, none⟩ = some b ∧ (w.alloc o).cell? ⟨g, 2, none⟩ = some c ∧ (w.alloc o).cell? ⟨g, 3, none⟩ = some d ∧ (w.alloc o).cell? ⟨g, 4, none⟩ = some e ∧ (w.alloc o).cell? ⟨g, 5, none⟩ = some f ∧ (w.alloc o).cell? ⟨g, 6, none⟩ = some k := d7_later (ext_al (Ext.refl w) o) h
theorem d7_drew {w : World} {g : Nat} {a b c d e f k : Value} (h : w.cell? ⟨g, 0, none⟩ = some a ∧ w.cell? ⟨g, 1, none⟩ = some b ∧ w.cell? ⟨g, 2, none⟩ = some c ∧ w.cell? ⟨g, 3, none⟩ = some d ∧ w.cell? ⟨g, 4, none⟩ = some e ∧ w.cell? ⟨g, 5, none⟩ = some f ∧ w.cell? ⟨g, 6, none⟩ = some k) :
    w.drew.cell? ⟨g, 0, none⟩ = some a ∧ w.drew.cell? ⟨g, 1, none⟩ = some b ∧ w.drew.cell? ⟨g, 2, none⟩ = some c ∧ w.drew.cell? ⟨g, 3, none⟩ = some d ∧ w.drew.cell? ⟨g, 4, none⟩ = some e ∧ w.drew.cell? ⟨g, 5, none⟩ = some f ∧ w.drew.cell? ⟨g, 6, none⟩ = some k := d7_later (Below.drew (Ext.refl w)) h
theorem d7_of {w : World} {g : Nat} {a b c d e f k : Value} {T : TypeId} (h : w.heap[g]? = some (.cells #[a, b, c, d, e, f, k] T (0, 0))) :
    w.cell? ⟨g, 0, none⟩ = some a ∧ w.cell? ⟨g, 1, none⟩ = some b ∧ w.cell? ⟨g, 2, none⟩ = some c ∧ w.cell? ⟨g, 3, none⟩ = some d ∧ w.cell? ⟨g, 4, none⟩ = some e ∧ w.cell? ⟨g, 5, none⟩ = some f ∧ w.cell? ⟨g, 6, none⟩ = some k :=
  ⟨blk_cell h rfl, blk_cell h rfl, blk_cell h rfl, blk_cell h rfl, blk_cell h rfl, blk_cell h rfl, blk_cell h rfl⟩

end Go.Proofs.YtbmimdnpchldlaaGreatDoor

namespace Go.Proofs.YtbmimdnpchldlaaGreatDoor
open Go.RowKit

theorem fm_task (d : Dn) {t : Tm} {a c : Nat} (h : Fm t a c) (ha : a ≤ 60) (hc : c ≤ 6) : TkOk d.md propT t :=
  ⟨d.drawn.ok, by rw [d.drawn.two]; omega, by rw [d.drawn.two]; exact propT_ok, h.isF ha hc⟩
theorem fm_room (d : Dn) {t : Tm} {a c : Nat} (h : Fm t a c) (hc : c ≤ 6) : ∃ C : Nat, countL d.md.vars = (C : Int) ∧ C * 2 ^ cntA t.flat ≤ 20000 := by
  have h1 := d.drawn.n1
  have h16 := d.drawn.n16
  have hcn := h.cnt
  refine ⟨(countL d.md.vars).toNat, by omega, ?_⟩
  have h2 : (countL d.md.vars).toNat ≤ 16 := by omega
  have h3 := Nat.pow_le_pow_right (n := 2) (by omega) (show cntA t.flat ≤ 6 by omega)
  exact Nat.le_trans (Nat.mul_le_mul h2 h3) (by decide)

set_option maxRecDepth 100000 in
set_option maxHeartbeats 8000000 in
theorem ttask_any (pv fv : Value) (d : Dn) (t : Tm) (w : World) (hpl : IsPlans w pv d.rules) (hd : DnI d) (hf : IsT w fv t) :
    Calls Tryz.prog 57 #[.agg (dnc d pv), fv] w fun e w' => ∃ vv rv qv, e = .returned (.agg #[vv, rv, qv, fv]) ∧ IsTask w' vv rv qv fv d.md propT t ∧ Ext w w' := by
  have HMO := Lib.hid fun wx (hx : Ext w wx) => model_any pv d wx (hpl.ext hx) hd
  have HFT := Lib.hid hf
  obtain ⟨af, nf, cf, rfl⟩ := hf.val
  have hx0 := ext_al (Ext.refl w) (Obj.cells (dnc d pv) 25)
  have hb0 := blk_new w (Obj.cells (dnc d pv) 25)
  have hx1 := ext_al (Ext.refl (w.alloc (Obj.cells (dnc d pv) 25))) (Obj.cells #[.slice none 0 0, .slice none 0 0, .slice none 0 0, .slice none 0 0] 35)
  have hb1 := blk_new (w.alloc (Obj.cells (dnc d pv) 25)) (Obj.cells #[.slice none 0 0, .slice none 0 0, .slice none 0 0, .slice none 0 0] 35)
  rw [World.size_alloc] at hb1
  have HX1 := Lib.hid (hx0.trans hx1)
  have HR1 := Lib.hid hb1
  have hbd := blk_ext hb0 hx1
  simp only [dnc] at HMO HX1 HR1 hbd ⊢
  have e0 := blk_cell hbd (i := 0) rfl
  have e1 := blk_cell hbd (i := 1) rfl
  have e2 := blk_cell hbd (i := 2) rfl
  have e3 := blk_cell hbd (i := 3) rfl
  have e4 := blk_cell hbd (i := 4) rfl
  have e5 := blk_cell hbd (i := 5) rfl
  have e6 := blk_cell hbd (i := 6) rfl
  generalize d.md = m at *
  clear hpl hd hf hx0 hb0 hx1 hb1 hbd
  go_enter Tryz.func57, Tryz.ntmps57
  go_wp2_with fail
  refine (HMO.out _ HX1.out).mono ?_
  rintro e w2 ⟨vv, rv, rfl, hM2, hE2⟩
  obtain ⟨av, cv, rfl⟩ := EachL.val hM2.vars
  obtain ⟨ar, cr, rfl⟩ := EachL.val hM2.rules
  have HM2 := Lib.hid hM2
  have HX2 := Lib.hid (HX1.out.trans hE2)
  have HR2 := Lib.hid (blk_ext HR1.out hE2)
  clear hM2 hE2 e0 e1 e2 e3 e4 e5 e6
  go_wp2_with fail
  refine (kprops2_any w2).mono ?_
  rintro e w3 ⟨qv, rfl, hQ3, hE3⟩
  obtain ⟨aq, cq, rfl⟩ := EachL.val hQ3
  have HQ3 := Lib.hid hQ3
  have HE3 := Lib.hid hE3
  have hR4 := blk_ext HR2.out hE3
  have HTK := Lib.hid (show IsTask w3 (.slice av m.vars.length cv) (.slice ar m.rules.length cr) (.slice aq propT.length cq) (.slice af nf cf) m propT t from ⟨HM2.out.ext hE3, hQ3, HFT.out.ext (HX2.out.trans hE3)⟩)
  have HX4 := Lib.hid (HX2.out.trans hE3)
  clear hQ3 hE3 HM2 HQ3 HMO HFT
  generalize propT.length = np at *
  generalize m.vars.length = nv at *
  generalize m.rules.length = nr at *
  have HR4 := Lib.hid hR4
  have r0 := blk_cell hR4 (i := 0) rfl
  have f0 := blk_free hR4 0
  have h1 := blk_set (i := 0) hR4 (.slice av nv cv)
  rw [(set4 _ _ _ _ _).1] at h1
  have r1 := blk_cell h1 (i := 1) rfl
  have f1 := blk_free h1 1
  have h2 := blk_set (i := 1) h1 (.slice ar nr cr)
  rw [(set4 _ _ _ _ _).2.1] at h2
  have r2 := blk_cell h2 (i := 2) rfl
  have f2 := blk_free h2 2
  have h3 := blk_set (i := 2) h2 (.slice aq np cq)
  rw [(set4 _ _ _ _ _).2.2.1] at h3
  have r3 := blk_cell h3 (i := 3) rfl
  have f3 := blk_free h3 3
  have h4 := blk_set (i := 3) h3 (.slice af nf cf)
  rw [(set4 _ _ _ _ _).2.2.2] at h4
  have H4 := Lib.hid h4
  clear hR4 h1 h2 h3 h4
  go_wp2
  have z0 := blk_cell H4.out (i := 0) rfl
  have z1 := blk_cell H4.out (i := 1) rfl
  have z2 := blk_cell H4.out (i := 2) rfl
  have z3 := blk_cell H4.out (i := 3) rfl
  have hg := (((grown_setP w3 ⟨w.heap.size + 1, 0, none⟩ (.slice av nv cv)).trans' (grown_setP _ ⟨w.heap.size + 1, 1, none⟩ (.slice ar nr cr))).trans' (grown_setP _ ⟨w.heap.size + 1, 2, none⟩ (.slice aq np cq))).trans' (grown_setP _ ⟨w.heap.size + 1, 3, none⟩ (.slice af nf cf))
  refine bodyPost_ret (v := .agg #[.slice av nv cv, .slice ar nr cr, .slice aq np cq, .slice af nf cf]) (by simp [results, Tryz.results57, go_sem, z0, z1, z2, z3]) rfl ⟨_, _, _, rfl, ⟨HTK.out.md.R HR4.out hg, IsTms.R HTK.out.pr HR4.out hg, isT_R HTK.out.fo HR4.out hg⟩, ?_⟩
  exact ext_st (ext_st (ext_st (ext_st HX4.out (by show w.heap.size ≤ w.heap.size + 1; omega) _) (by show w.heap.size ≤ w.heap.size + 1; omega) _) (by show w.heap.size ≤ w.heap.size + 1; omega) _) (by show w.heap.size ≤ w.heap.size + 1; omega) _

set_option maxRecDepth 100000 in
set_option maxHeartbeats 8000000 in
theorem tholds_any (pv fv : Value) (d : Dn) (t : Tm) (w : World) (ht : Tab w) (hpl : IsPlans w pv d.rules) (hd : DnI d) (hf : IsT w fv t) {a c : Nat} (hF : Fm t a c) (ha : a ≤ 60) (hc : c ≤ 6) :
    Calls Tryz.prog 26 #[.agg (dnc d pv), fv] w fun e w' => e = .returned (.tuple #[.bool (holdsB d.md propT t), .bool true]) ∧ Ext w w' := by
  obtain ⟨C, hC, hCN⟩ := fm_room d hF hc
  have HTT := Lib.hid fun wx (hx : Ext w wx) => ttask_any pv fv d t wx (hpl.ext hx) hd (hf.ext hx)
  have HTB := Lib.hid ht
  have HK := Lib.hid (fm_task d hF ha hc)
  have HVE := Lib.hid fun vv rv qv wx (hx : Ext w wx) (hT : IsTask wx vv rv qv fv d.md propT t) => verdict_any vv rv qv fv d.md propT t wx hT (HTB.out.ext hx) HK.out C hC hCN
  obtain ⟨af, nf, cf, rfl⟩ := hf.val
  have hx0 := ext_al (Ext.refl w) (Obj.cells (dnc d pv) 25)
  have hb0 := blk_new w (Obj.cells (dnc d pv) 25)
  have HX0 := Lib.hid hx0
  simp only [dnc] at HTT HX0 hb0 ⊢
  have e0 := blk_cell hb0 (i := 0) rfl
  have e1 := blk_cell hb0 (i := 1) rfl
  have e2 := blk_cell hb0 (i := 2) rfl
  have e3 := blk_cell hb0 (i := 3) rfl
  have e4 := blk_cell hb0 (i := 4) rfl
  have e5 := blk_cell hb0 (i := 5) rfl
  have e6 := blk_cell hb0 (i := 6) rfl
  have HHB := Lib.hid (show ∀ b, (b = true ↔ HoldsR d.md propT t) → b = holdsB d.md propT t from fun b hb => (holdsB_eq hb.symm).symm)
  generalize holdsB d.md propT t = hb at *
  generalize d.md = m at *
  clear hpl hd hf hx0 hb0 ht hC hCN hF
  go_enter Tryz.func26, Tryz.ntmps26
  go_wp2_with fail
  refine (HTT.out _ HX0.out).mono ?_
  rintro e w1 ⟨vv, rv, qv, rfl, hT1, hE1⟩
  have HT1 := Lib.hid hT1
  have HE1 := Lib.hid (HX0.out.trans hE1)
  obtain ⟨av, cv, ar, cr, ap, cp, af2, nf2, cf2, rfl, rfl, rfl, hq⟩ := hT1.val
  clear hq hT1 hE1 e0 e1 e2 e3 e4 e5 e6
  go_wp2_with fail
  refine (HVE.out _ _ _ _ HE1.out HT1.out).mono ?_
  unfold VerR
  rintro e w2 ⟨b, a1, n1, c1, a2, n2, c2, rfl, hb2, hE2⟩
  obtain rfl := HHB.out b hb2
  have HE2 := Lib.hid (ext_al (HE1.out.trans hE2) (Obj.cells #[.bool b, .slice a1 n1 c1, .slice a2 n2 c2] 81))
  clear hb2 hE2
  go_wp2
  go_ret2
  exact ⟨rfl, HE2.out⟩

end Go.Proofs.YtbmimdnpchldlaaGreatDoor

namespace Go.Proofs.YtbmimdnpchldlaaGreatDoor
open Go.RowKit

theorem fm_no : Fm (.n0 12 0) 1 0 := ⟨⟨by omega, by omega, by decide⟩, fun o ho => by
  simp only [Tm.flat, List.mem_singleton] at ho
  subst ho
  exact ⟨by simp, by simp, fun h => by simp at h, fun _ => rfl⟩, Nat.le_refl _, by simp [Tm.flat, cntA, aheadB]⟩
theorem tholds_b (pv fv : Value) (d : Dn) (t : Tm) (w : World) (ht : Tab w) (hpl : IsPlans w pv d.rules) (hd : DnI d) (hf : IsT w fv t) {a c : Nat} (hF : Fm t a c) (ha : a ≤ 60) (hc : c ≤ 6) (b : Bool) (hb : holdsB d.md propT t = b) :
    Calls Tryz.prog 26 #[.agg (dnc d pv), fv] w fun e w' => e = .returned (.tuple #[.bool b, .bool true]) ∧ Ext w w' := by
  rw [← hb]
  exact tholds_any pv fv d t w ht hpl hd hf hF ha hc

end Go.Proofs.YtbmimdnpchldlaaGreatDoor
