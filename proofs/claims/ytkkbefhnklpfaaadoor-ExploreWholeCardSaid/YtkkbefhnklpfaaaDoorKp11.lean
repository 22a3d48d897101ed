/- Several texts in one: LineP; Follows; FollowA; PrE; ExP. No condition. -/
import Derived.Test.YtkkbefhnklpfaaaDoorKp10
import Derived.Test.YtkkbefhnklpfaaaDoorKp9
import Derived.Test.YtkkbefhnklpfaaaDoorKp7
import Derived.Deep.RegionHeld3
import Derived.Deep.Cut
import Derived.Test.YtkkbefhnklpfaaaDoorKp2
namespace Go.Proofs.YtkkbefhnklpfaaaDoor

/-- Does an op that looks ahead keep its law, from one moment to the next? -/
def keepB (k : Int) (es : List Int) (now next : List Bool) (i : Nat) : Bool :=
  if k = 14 then now.getD i false == next.getD (i + 1) false
  else if k = 17 then now.getD i false == (now.getD (i + 1) false || next.getD i false)
  else if k = 18 then now.getD i false == (now.getD (i + 1) false && next.getD i false)
  else if k = 15 then now.getD i false == (now.getD (secAt es i) false || (now.getD (i + 1) false && next.getD i false))
  else now.getD i false == (now.getD (secAt es i) false && (now.getD (i + 1) false || next.getD i false))

/-- All of the first ones do. -/
def folB (l : List Op2) (es : List Int) (now next : List Bool) : Nat → Bool
  | 0 => true
  | i + 1 => folB l es now next i && (!aheadB (l.getD i (0, 0)).1 || keepB (l.getD i (0, 0)).1 es now next i)
theorem folB_iff (l : List Op2) (es : List Int) (now next : List Bool) : ∀ m, folB l es now next m = true ↔ ∀ p, p < m → aheadB (l.getD p (0, 0)).1 = true → keepB (l.getD p (0, 0)).1 es now next p = true
  | 0 => by simp [folB]
  | m + 1 => by
    rw [folB, Bool.and_eq_true, folB_iff l es now next m, Bool.or_eq_true, Bool.not_eq_true']
    constructor
    · rintro ⟨h1, h2⟩ p hp ha
      by_cases e : p = m
      · subst e
        rcases h2 with h2 | h2
        · rw [h2] at ha; cases ha
        · exact h2
      · exact h1 p (by omega) ha
    · intro h
      refine ⟨fun p hp => h p (by omega), ?_⟩
      cases ha : aheadB (l.getD m (0, 0)).1
      · exact .inl rfl
      · exact .inr (h m (by omega) ha)

section
variable {n back : Nat} {a b r : Nat → Bool}
theorem until_fair (hb : back < n) (hr : ∀ i, i < n → r i = (b i || (a i && r (nxt n back i)))) (hm : ∃ i, back ≤ i ∧ i < n ∧ (!r i || b i) = true) : ∀ i, i < n → (r i = true ↔ UntilP n back (fun j => a j = true) (fun j => b j = true) i) := by
  intro i hi
  constructor
  · intro h
    apply Classical.byContradiction
    intro hu
    have key : ∀ j, r (nxtN n back j i) = true ∧ ¬ UntilP n back (fun j => a j = true) (fun j => b j = true) (nxtN n back j i) := by
      intro j
      induction j with
      | zero => exact ⟨h, hu⟩
      | succ j ih =>
        obtain ⟨h1, h2⟩ := ih
        have e : nxtN n back (j + 1) i = nxt n back (nxtN n back j i) := by rw [nxtN_add]; rfl
        have hx := nxtN_lt hb j i hi
        rw [e]
        generalize nxtN n back j i = x at *
        rw [until_iff] at h2
        rw [hr x hx] at h1
        simp only [Bool.or_eq_true, Bool.and_eq_true] at h1
        rcases h1 with h1 | ⟨h1, h3⟩
        · exact absurd (.inl h1) h2
        · exact ⟨h3, fun h4 => h2 (.inr ⟨h1, h4⟩)⟩
    obtain ⟨i0, h0, h1, h2⟩ := hm
    obtain ⟨j, hj⟩ := nxtN_reach hi (k := i0) (by omega) h1 hb
    obtain ⟨k1, k2⟩ := key j
    rw [hj] at k1 k2
    rw [k1] at h2
    exact k2 ⟨0, (show b i0 = true by simpa using h2), fun m hm => by omega⟩
  · rintro ⟨j, h1, h2⟩
    induction j generalizing i with
    | zero => rw [hr i hi]; rw [show b i = true from h1]; rfl
    | succ j ih =>
      have h3 := ih (nxt n back i) (nxt_lt hb) h1 fun m hm => h2 (m + 1) (by omega)
      have h4 : a i = true := h2 0 (by omega)
      rw [hr i hi, h3, h4]; simp
theorem rel_fair (hb : back < n) (hr : ∀ i, i < n → r i = (b i && (a i || r (nxt n back i)))) (hm : ∃ i, back ≤ i ∧ i < n ∧ (r i || !b i) = true) : ∀ i, i < n → (r i = true ↔ RelP n back (fun j => a j = true) (fun j => b j = true) i) := by
  intro i hi
  have h := until_fair (a := fun j => !a j) (b := fun j => !b j) (r := fun j => !r j) hb (fun i hi => by
    show (!r i) = _
    rw [hr i hi]; simp [Bool.not_and, Bool.not_or]) (by
    obtain ⟨i, h1, h2, h3⟩ := hm
    exact ⟨i, h1, h2, by simpa using h3⟩) i hi
  rw [rel_not, ← not_congr (h.trans (until_congr (fun j => by simp) (fun j => by simp) i))]
  simp
end

/-- The truths of all terms along a word, with claims. -/
def tvW (W : Wd) (c : Nat → Nat) (t : Tm) (i : Nat) : List Bool := tvT (W.ls.getD i []) (c i) t 0

theorem getD_of {l : List Bool} {i : Nat} {b : Bool} (h : l[i]? = some b) : l.getD i false = b := by simp [List.getD, h]
theorem getD_op {l : List Op2} {i : Nat} {o : Op2} (h : l[i]? = some o) : l.getD i (0, 0) = o := by simp [List.getD, h]

section
variable {W : Wd} {t : Tm} (ht : t.ok) {props : Int} (hfit : ∀ o ∈ t.flat, FitOp props o) {c : Nat → Nat}
include ht hfit
/-- With the claims of what holds the truths are what holds. -/
theorem claims_sat (hc : ∀ i, i < W.n → ∀ p s, (subs t)[p]? = some s → aheadB s.kd = true → (c i).testBit (cntA (t.flat.take p)) = satB W s i) :
    ∀ m p, t.size ≤ p + m → ∀ s, (subs t)[p]? = some s → ∀ i, i < W.n → (tvW W c t i).getD p false = satB W s i := by
  intro m
  induction m with
  | zero =>
    intro p hp s hs
    have := (List.getElem?_eq_some_iff.1 hs).1
    rw [subs_len] at this
    omega
  | succ m ih =>
    intro p hp s hs i hi
    have hps : p < t.size := by have := (List.getElem?_eq_some_iff.1 hs).1; rwa [subs_len] at this
    obtain ⟨s', hS⟩ := subs_at t ht p hps
    obtain rfl : s = s' := by have := hS.sub; rw [hs] at this; exact Option.some.inj this
    have hf := hfit _ (List.mem_of_getElem? hS.op)
    have hV : TvAt (W.ls.getD i []) (c i) t.flat (t.ends 0) (tvW W c t i) p s.kd s.vl := tv_at _ _ t ht p _ _ hS.op
    cases hah : aheadB s.kd with
    | true => rw [getD_of (hV.ah hah), hc i hi p s hs hah]
    | false =>
      rcases tm_cases hS.ok hf with ⟨v, rfl, _, _⟩ | rfl | rfl | ⟨a, rfl⟩ | ⟨a, rfl⟩ | ⟨a, rfl⟩ | ⟨a, rfl⟩ | ⟨a, b, rfl⟩ | ⟨a, b, rfl⟩ | ⟨a, b, rfl⟩ | ⟨a, b, rfl⟩
      · rw [getD_of (hV.prop rfl), satB_prop]; rfl
      · rw [getD_of (hV.yes rfl), satB_yes]
      · rw [getD_of (hV.no rfl), satB_no]
      · rw [getD_of (hV.not rfl), satB_not, ih (p + 1) (by omega) a (hS.one _ _ _ rfl) i hi]
      · cases hah
      · cases hah
      · cases hah
      · obtain ⟨g1, -, g3, g4⟩ := hS.two _ _ _ _ rfl
        rw [getD_of (hV.and rfl), satB_and, ih (p + 1) (by omega) a g1 i hi, ih _ (by omega) b g4 i hi]
      · obtain ⟨g1, -, g3, g4⟩ := hS.two _ _ _ _ rfl
        rw [getD_of (hV.or rfl), satB_or, ih (p + 1) (by omega) a g1 i hi, ih _ (by omega) b g4 i hi]
      · cases hah
      · cases hah
end

section
variable {W : Wd} (hb : W.back < W.n) {t : Tm} (ht : t.ok) {props : Int} (hfit : ∀ o ∈ t.flat, FitOp props o) {c : Nat → Nat}
include hb ht hfit

/-- A line that keeps all laws, and in which nothing waits for ever, tells what holds. -/
theorem line_sat (hk : ∀ i, i < W.n → ∀ p, p < t.size → aheadB (t.flat.getD p (0, 0)).1 = true → keepB (t.flat.getD p (0, 0)).1 (t.ends 0) (tvW W c t i) (tvW W c t (nxt W.n W.back i)) p = true)
    (hm : ∀ p, p < t.size → aheadB (t.flat.getD p (0, 0)).1 = true → ∃ i, W.back ≤ i ∧ i < W.n ∧ metB (t.flat.getD p (0, 0)).1 (t.ends 0) (tvW W c t i) p = true) :
    ∀ m p, t.size ≤ p + m → ∀ s, (subs t)[p]? = some s → ∀ i, i < W.n → (tvW W c t i).getD p false = satB W s i := by
  intro m
  induction m with
  | zero =>
    intro p hp s hs
    have := (List.getElem?_eq_some_iff.1 hs).1
    rw [subs_len] at this
    omega
  | succ m ih =>
    intro p hp s hs i hi
    have hps : p < t.size := by have := (List.getElem?_eq_some_iff.1 hs).1; rwa [subs_len] at this
    obtain ⟨s', hS⟩ := subs_at t ht p hps
    obtain rfl : s = s' := by have := hS.sub; rw [hs] at this; exact Option.some.inj this
    have hf := hfit _ (List.mem_of_getElem? hS.op)
    have hop := getD_op hS.op
    have hV : ∀ i, TvAt (W.ls.getD i []) (c i) t.flat (t.ends 0) (tvW W c t i) p s.kd s.vl := fun i => tv_at _ _ t ht p _ _ hS.op
    have hk' := fun i hi => hk i hi p hps
    have hm' := hm p hps
    rw [hop] at hm'
    simp only [hop] at hk'
    rcases tm_cases hS.ok hf with ⟨v, rfl, _, _⟩ | rfl | rfl | ⟨a, rfl⟩ | ⟨a, rfl⟩ | ⟨a, rfl⟩ | ⟨a, rfl⟩ | ⟨a, b, rfl⟩ | ⟨a, b, rfl⟩ | ⟨a, b, rfl⟩ | ⟨a, b, rfl⟩
    · rw [getD_of ((hV i).prop rfl), satB_prop]; rfl
    · rw [getD_of ((hV i).yes rfl), satB_yes]
    · rw [getD_of ((hV i).no rfl), satB_no]
    · rw [getD_of ((hV i).not rfl), satB_not, ih (p + 1) (by omega) a (hS.one _ _ _ rfl) i hi]
    · have h := hk' i hi rfl
      have h1 := ih (p + 1) (by omega) a (hS.one _ _ _ rfl) _ (nxt_lt (i := i) hb)
      simp only [Tm.kd, keepB, if_true, beq_iff_eq] at h
      rw [h, h1, satB_next]
    · have h1 := ih (p + 1) (by omega) a (hS.one _ _ _ rfl)
      have := until_fair (r := fun i => (tvW W c t i).getD p false) (a := fun _ => true) (b := satB W a) hb (fun i hi => by
        have h := hk' i hi rfl
        simp only [Tm.kd, keepB, show ¬ (17 : Int) = 14 by decide, if_true, if_false, beq_iff_eq] at h
        rw [h1 i hi] at h
        simpa using h) (by
        obtain ⟨i, e1, e2, e3⟩ := hm' rfl
        refine ⟨i, e1, e2, ?_⟩
        simp only [Tm.kd, metB, if_true] at e3
        rw [h1 i e2] at e3
        exact e3) i hi
      exact Bool.eq_iff_iff.2 (this.trans (satB_fin W 0 a i).symm)
    · have h1 := ih (p + 1) (by omega) a (hS.one _ _ _ rfl)
      have := rel_fair (r := fun i => (tvW W c t i).getD p false) (a := fun _ => false) (b := satB W a) hb (fun i hi => by
        have h := hk' i hi rfl
        simp only [Tm.kd, keepB, show ¬ (18 : Int) = 14 by decide, show ¬ (18 : Int) = 17 by decide, if_true, if_false, beq_iff_eq] at h
        rw [h1 i hi] at h
        simpa using h) (by
        obtain ⟨i, e1, e2, e3⟩ := hm' rfl
        refine ⟨i, e1, e2, ?_⟩
        simp only [Tm.kd, metB, show ¬ (18 : Int) = 17 by decide, if_true, if_false] at e3
        rw [h1 i e2] at e3
        exact e3) i hi
      exact Bool.eq_iff_iff.2 (this.trans (satB_glo W 0 a i).symm)
    · obtain ⟨g1, -, g3, g4⟩ := hS.two _ _ _ _ rfl
      rw [getD_of ((hV i).and rfl), satB_and, ih (p + 1) (by omega) a g1 i hi, ih _ (by omega) b g4 i hi]
    · obtain ⟨g1, -, g3, g4⟩ := hS.two _ _ _ _ rfl
      rw [getD_of ((hV i).or rfl), satB_or, ih (p + 1) (by omega) a g1 i hi, ih _ (by omega) b g4 i hi]
    · obtain ⟨g1, -, g3, g4⟩ := hS.two _ _ _ _ rfl
      have h1 := ih (p + 1) (by omega) a g1
      have h2 := ih _ (by omega) b g4
      have := until_fair (r := fun i => (tvW W c t i).getD p false) (a := satB W a) (b := satB W b) hb (fun i hi => by
        have h := hk' i hi rfl
        simp only [Tm.kd, keepB, show ¬ (15 : Int) = 14 by decide, show ¬ (15 : Int) = 17 by decide, show ¬ (15 : Int) = 18 by decide, if_true, if_false, beq_iff_eq] at h
        rw [h1 i hi, h2 i hi] at h
        exact h) (by
        obtain ⟨i, e1, e2, e3⟩ := hm' rfl
        refine ⟨i, e1, e2, ?_⟩
        simp only [Tm.kd, metB, show ¬ (15 : Int) = 17 by decide, show ¬ (15 : Int) = 18 by decide, if_true, if_false] at e3
        rw [h2 i e2] at e3
        exact e3) i hi
      exact Bool.eq_iff_iff.2 (this.trans (satB_unt W 0 a b i).symm)
    · obtain ⟨g1, -, g3, g4⟩ := hS.two _ _ _ _ rfl
      have h1 := ih (p + 1) (by omega) a g1
      have h2 := ih _ (by omega) b g4
      have := rel_fair (r := fun i => (tvW W c t i).getD p false) (a := satB W a) (b := satB W b) hb (fun i hi => by
        have h := hk' i hi rfl
        simp only [Tm.kd, keepB, show ¬ (16 : Int) = 14 by decide, show ¬ (16 : Int) = 17 by decide, show ¬ (16 : Int) = 18 by decide, show ¬ (16 : Int) = 15 by decide, if_false, beq_iff_eq] at h
        rw [h1 i hi, h2 i hi] at h
        exact h) (by
        obtain ⟨i, e1, e2, e3⟩ := hm' rfl
        refine ⟨i, e1, e2, ?_⟩
        simp only [Tm.kd, metB, show ¬ (16 : Int) = 17 by decide, show ¬ (16 : Int) = 18 by decide, show ¬ (16 : Int) = 15 by decide, if_true, if_false] at e3
        rw [h2 i e2] at e3
        exact e3) i hi
      exact Bool.eq_iff_iff.2 (this.trans (satB_rel W 0 a b i).symm)

/-- And it is a line. -/
theorem sat_keeps (hs : ∀ p s, (subs t)[p]? = some s → ∀ i, i < W.n → (tvW W c t i).getD p false = satB W s i) (i : Nat) (hi : i < W.n) (p : Nat) (hp : p < t.size) (ha : aheadB (t.flat.getD p (0, 0)).1 = true) :
    keepB (t.flat.getD p (0, 0)).1 (t.ends 0) (tvW W c t i) (tvW W c t (nxt W.n W.back i)) p = true := by
  obtain ⟨s, hS⟩ := subs_at t ht p hp
  have hf := hfit _ (List.mem_of_getElem? hS.op)
  have hx := nxt_lt (i := i) hb
  rw [getD_op hS.op] at ha ⊢
  have h0 := hs p s hS.sub
  rcases tm_cases hS.ok hf with ⟨v, rfl, _, _⟩ | rfl | rfl | ⟨a, rfl⟩ | ⟨a, rfl⟩ | ⟨a, rfl⟩ | ⟨a, rfl⟩ | ⟨a, b, rfl⟩ | ⟨a, b, rfl⟩ | ⟨a, b, rfl⟩ | ⟨a, b, rfl⟩
  · cases ha
  · cases ha
  · cases ha
  · cases ha
  · have h1 := hs _ _ (hS.one _ _ _ rfl)
    simp only [Tm.kd, keepB, if_true, beq_iff_eq]
    rw [h0 i hi, h1 _ hx, satB_next]
  · have h1 := hs _ _ (hS.one _ _ _ rfl)
    simp only [Tm.kd, keepB, show ¬ (17 : Int) = 14 by decide, if_true, if_false, beq_iff_eq]
    rw [h0 i hi, h1 _ hi, h0 _ hx, now_fin]
  · have h1 := hs _ _ (hS.one _ _ _ rfl)
    simp only [Tm.kd, keepB, show ¬ (18 : Int) = 14 by decide, show ¬ (18 : Int) = 17 by decide, if_true, if_false, beq_iff_eq]
    rw [h0 i hi, h1 _ hi, h0 _ hx, now_glo]
  · cases ha
  · cases ha
  · obtain ⟨g1, -, g3, g4⟩ := hS.two _ _ _ _ rfl
    simp only [Tm.kd, keepB, show ¬ (15 : Int) = 14 by decide, show ¬ (15 : Int) = 17 by decide, show ¬ (15 : Int) = 18 by decide, if_true, if_false, beq_iff_eq]
    rw [h0 i hi, hs _ _ g1 _ hi, hs _ _ g4 _ hi, h0 _ hx, now_unt]
  · obtain ⟨g1, -, g3, g4⟩ := hS.two _ _ _ _ rfl
    simp only [Tm.kd, keepB, show ¬ (16 : Int) = 14 by decide, show ¬ (16 : Int) = 17 by decide, show ¬ (16 : Int) = 18 by decide, show ¬ (16 : Int) = 15 by decide, if_false, beq_iff_eq]
    rw [h0 i hi, hs _ _ g1 _ hi, hs _ _ g4 _ hi, h0 _ hx, now_rel]

theorem sat_meets (hs : ∀ p s, (subs t)[p]? = some s → ∀ i, i < W.n → (tvW W c t i).getD p false = satB W s i) (p : Nat) (hp : p < t.size) (ha : aheadB (t.flat.getD p (0, 0)).1 = true) :
    ∃ i, W.back ≤ i ∧ i < W.n ∧ metB (t.flat.getD p (0, 0)).1 (t.ends 0) (tvW W c t i) p = true := by
  obtain ⟨s, hS⟩ := subs_at t ht p hp
  have hf := hfit _ (List.mem_of_getElem? hS.op)
  rw [getD_op hS.op] at ha ⊢
  have h0 := hs p s hS.sub
  have hin : ∀ j, W.back ≤ nxtN W.n W.back j W.back ∧ nxtN W.n W.back j W.back < W.n := fun j => ⟨by have := nxtN_min (n := W.n) (back := W.back) j W.back; omega, nxtN_lt hb j _ hb⟩
  rcases tm_cases hS.ok hf with ⟨v, rfl, _, _⟩ | rfl | rfl | ⟨a, rfl⟩ | ⟨a, rfl⟩ | ⟨a, rfl⟩ | ⟨a, rfl⟩ | ⟨a, b, rfl⟩ | ⟨a, b, rfl⟩ | ⟨a, b, rfl⟩ | ⟨a, b, rfl⟩
  · cases ha
  · cases ha
  · cases ha
  · cases ha
  · exact ⟨W.back, Nat.le_refl _, hb, rfl⟩
  · have h1 := hs _ _ (hS.one _ _ _ rfl)
    simp only [Tm.kd, metB, if_true]
    cases hx : satB W (.n1 17 0 a) W.back
    · exact ⟨W.back, Nat.le_refl _, hb, by rw [h0 _ hb, hx]; rfl⟩
    · rw [satB_iff, sat_fin] at hx
      obtain ⟨j, hj⟩ := hx
      exact ⟨_, (hin j).1, (hin j).2, by rw [h1 _ (hin j).2, satB_iff.2 hj]; simp⟩
  · have h1 := hs _ _ (hS.one _ _ _ rfl)
    simp only [Tm.kd, metB, show ¬ (18 : Int) = 17 by decide, if_true, if_false]
    cases hx : satB W (.n1 18 0 a) W.back
    · have hx' : ¬ Sat W (.n1 18 0 a) W.back := fun h => by rw [satB_iff.2 h] at hx; cases hx
      rw [sat_glo] at hx'
      obtain ⟨j, hj⟩ := Classical.not_forall.1 hx'
      exact ⟨_, (hin j).1, (hin j).2, by
        have e : satB W a (nxtN W.n W.back j W.back) = false := by
          cases e : satB W a (nxtN W.n W.back j W.back)
          · rfl
          · exact absurd (satB_iff.1 e) hj
        rw [h1 _ (hin j).2, e]; simp⟩
    · exact ⟨W.back, Nat.le_refl _, hb, by rw [h0 _ hb, hx]; rfl⟩
  · cases ha
  · cases ha
  · obtain ⟨g1, -, g3, g4⟩ := hS.two _ _ _ _ rfl
    simp only [Tm.kd, metB, show ¬ (15 : Int) = 17 by decide, show ¬ (15 : Int) = 18 by decide, if_true, if_false]
    cases hx : satB W (.n2 15 0 a b) W.back
    · exact ⟨W.back, Nat.le_refl _, hb, by rw [h0 _ hb, hx]; rfl⟩
    · rw [satB_iff, sat_unt] at hx
      obtain ⟨j, hj, _⟩ := hx
      exact ⟨_, (hin j).1, (hin j).2, by rw [hs _ _ g4 _ (hin j).2, satB_iff.2 hj]; simp⟩
  · obtain ⟨g1, -, g3, g4⟩ := hS.two _ _ _ _ rfl
    simp only [Tm.kd, metB, show ¬ (16 : Int) = 17 by decide, show ¬ (16 : Int) = 18 by decide, show ¬ (16 : Int) = 15 by decide, if_true, if_false]
    cases hx : satB W (.n2 16 0 a b) W.back
    · have hx' : ¬ Sat W (.n2 16 0 a b) W.back := fun h => by rw [satB_iff.2 h] at hx; cases hx
      rw [sat_rel, rel_not] at hx'
      obtain ⟨j, hj, _⟩ := Classical.not_not.1 hx'
      exact ⟨_, (hin j).1, (hin j).2, by
        have e : satB W b (nxtN W.n W.back j W.back) = false := by
          cases e : satB W b (nxtN W.n W.back j W.back)
          · rfl
          · exact absurd (satB_iff.1 e) hj
        rw [hs _ _ g4 _ (hin j).2, e]; simp⟩
    · exact ⟨W.back, Nat.le_refl _, hb, by rw [h0 _ hb, hx]; rfl⟩
end

end Go.Proofs.YtkkbefhnklpfaaaDoor

namespace Go.Proofs.YtkkbefhnklpfaaaDoor
open Go.RowKit

/-- keeps, with the second part's place told. -/
def keepV (k : Int) (now next : List Bool) (p s : Nat) : Bool :=
  if k = 14 then now.getD p false == next.getD (p + 1) false
  else if k = 17 then now.getD p false == (now.getD (p + 1) false || next.getD p false)
  else if k = 18 then now.getD p false == (now.getD (p + 1) false && next.getD p false)
  else if k = 15 then now.getD p false == (now.getD s false || (now.getD (p + 1) false && next.getD p false))
  else now.getD p false == (now.getD s false && (now.getD (p + 1) false || next.getD p false))
theorem keepV_eq (k : Int) (es : List Int) (now next : List Bool) (p : Nat) : keepB k es now next p = keepV k now next p (secAt es p) := rfl

set_option maxRecDepth 100000 in
set_option maxHeartbeats 2000000 in
theorem keeps_any (w : World) (a b : Option Addr) (n ca cb : Nat) (A B : List Bool) (k : Int) (p s : Nat) (hA : Row w 1 a n ca (A.map .bool)) (hB : Row w 1 b n cb (B.map .bool)) (hp : p + 1 < n) (hs : k = 15 ∨ k = 16 → s < n) (hk : 14 ≤ k) (hk2 : k ≤ 18) (hn : n ≤ 60) :
    Calls Tryd.prog 61 #[.agg #[.slice a n ca, .slice b n cb], .int .i64 k, .int .i64 (p : Int), .int .i64 (s : Int)] w fun e w' => e = .returned (.bool (keepV k A B p s)) ∧ Ext w w' := by
  have hAl : A.length = n := by have := hA.len; simpa using this
  have hBl : B.length = n := by have := hB.len; simpa using this
  obtain ⟨bA, oA, hA1, hA2⟩ := row_ints hA
  obtain ⟨bB, oB, hB1, hB2⟩ := row_ints hB
  obtain rfl := hA1 (by omega)
  obtain rfl := hB1 (by omega)
  have hx := ext_al (Ext.refl w) (Obj.cells #[.slice (some ⟨bA, oA, none⟩) n ca, .slice (some ⟨bB, oB, none⟩) n cb] 126)
  have hbk := blk_new w (Obj.cells #[.slice (some ⟨bA, oA, none⟩) n ca, .slice (some ⟨bB, oB, none⟩) n cb] 126)
  have p0 := blk_cell hbk (i := 0) (v := .slice (some ⟨bA, oA, none⟩) n ca) rfl
  have p1 := blk_cell hbk (i := 1) (v := .slice (some ⟨bB, oB, none⟩) n cb) rfl
  have a0 := cell_later hx (hA2 p _ (getD_some (by omega)))
  have a1 := cell_later hx (hA2 (p + 1) _ (getD_some (by omega)))
  have b0 := cell_later hx (hB2 p _ (getD_some (by omega)))
  have b1 := cell_later hx (hB2 (p + 1) _ (getD_some (by omega)))
  have HA2 := Lib.hid fun (h : s < n) => cell_later hx (hA2 s _ (getD_some (by omega)))
  have HX := Lib.hid hx
  have hpI : (p : Int) < (n : Int) := by omega
  have hp0 : (0 : Int) ≤ (p : Int) := by omega
  have hw0 : IntKind.i64.wrap ((p : Int) + 1) = (p : Int) + 1 := IntWalk.i64_in _ (by omega)
  have hp1I : (p : Int) + 1 < (n : Int) := by omega
  have hp10 : (0 : Int) ≤ (p : Int) + 1 := by omega
  have hto : ((p : Int) + 1).toNat = p + 1 := by omega
  have hsI : k = 15 ∨ k = 16 → (s : Int) < (n : Int) := fun h => by have := hs h; omega
  have HSI := Lib.hid hsI
  have HS := Lib.hid hs
  have hs0 : (0 : Int) ≤ (s : Int) := by omega
  unfold keepV
  generalize A.getD p false = me at *
  generalize A.getD (p + 1) false = fa at *
  generalize B.getD p false = la at *
  generalize B.getD (p + 1) false = fb at *
  generalize A.getD s false = sa at *
  have hkk : k = 14 ∨ k = 15 ∨ k = 16 ∨ k = 17 ∨ k = 18 := by omega
  clear hA hB hA1 hA2 hB1 hB2 hx hbk hsI hs hk hk2 hAl hBl
  rcases hkk with rfl | rfl | rfl | rfl | rfl
  · clear HA2
    go_enter Tryd.func61, Tryd.ntmps61
    go_wp2_with fail
    go_quiet (fail)
    go_wp2
    go_ret
    exact ⟨rfl, below_drewN HX.out _⟩
  · have sI := HSI.out (.inl rfl)
    have a2 := HA2.out (HS.out (.inl rfl))
    clear HSI HS HA2
    cases sa
    all_goals cases fa
    all_goals
      go_enter Tryd.func61, Tryd.ntmps61
      go_wp2_with fail
      go_quiet (fail)
      go_wp2
      go_ret
      exact ⟨by cases me <;> cases la <;> rfl, below_drewN HX.out _⟩
  · have sI := HSI.out (.inr rfl)
    have a2 := HA2.out (HS.out (.inr rfl))
    clear HSI HS HA2
    cases sa
    all_goals cases fa
    all_goals
      go_enter Tryd.func61, Tryd.ntmps61
      go_wp2_with fail
      go_quiet (fail)
      go_wp2
      go_ret
      exact ⟨by cases me <;> cases la <;> rfl, below_drewN HX.out _⟩
  · clear HA2
    cases fa
    all_goals
      go_enter Tryd.func61, Tryd.ntmps61
      go_wp2_with fail
      go_quiet (fail)
      go_wp2
      go_ret
      exact ⟨by cases me <;> cases la <;> rfl, below_drewN HX.out _⟩
  · clear HA2
    cases fa
    all_goals
      go_enter Tryd.func61, Tryd.ntmps61
      go_wp2_with fail
      go_quiet (fail)
      go_wp2
      go_ret
      exact ⟨by cases me <;> cases la <;> rfl, below_drewN HX.out _⟩

theorem folB_false {l : List Op2} {es : List Int} {now next : List Bool} {i : Nat} (h : folB l es now next i = false) : ∀ m, i ≤ m → folB l es now next m = false
  | 0, hm => by obtain rfl : i = 0 := by omega
                exact h
  | m + 1, hm => by
    by_cases e : i = m + 1
    · subst e; exact h
    · rw [folB, folB_false h m (by omega)]; rfl

end Go.Proofs.YtkkbefhnklpfaaaDoor

namespace Go.Proofs.YtkkbefhnklpfaaaDoor
open Go.RowKit

set_option maxRecDepth 100000 in
set_option maxHeartbeats 8000000 in
theorem follows_any (v : Value) (l : List Op2) (t : Tm) (v1 v2 : Value) (L1 L2 : List Bool) (c1 c2 : Nat) (w : World) (h : Ops w v l) (ht : Tab w) (hf : IsF l (L1.length : Int) t) (hL1 : Bools w v1 L1) (hL2 : Bools w v2 L2) (hlen : L2.length = L1.length) (hc1 : c1 < 2 ^ cntA l) (hc2 : c2 < 2 ^ cntA l) :
    Calls Tryd.prog 40 #[v, v1, .int .i64 (c1 : Int), v2, .int .i64 (c2 : Int)] w fun e w' => e = .returned (.tuple #[.bool (folB l (t.ends 0) (tvT L1 c1 t 0) (tvT L2 c2 t 0) l.length), .int .i64 0]) ∧ Ext w w' := by
  have hen := ends_term t hf.ok hf.small
  rw [hf.flat] at hen
  have HTR := Lib.hid (truths_any v l t v1 L1 c1 w h ht hf hL1 hc1)
  have HTS := Lib.hid fun wx (hx : Ext w wx) => truths_any v l t v2 L2 c2 wx (h.ext hx) (ht.ext hx) (by rw [hlen]; exact hf) (hL2.ext hx) hc2
  have HEN := Lib.hid fun wx (hx : Ext w wx) => by have H := ends_any v l wx (h.ext hx) (ht.ext hx); rw [hen] at H; exact H
  have hl60 : l.length ≤ 60 := by rw [← hf.flat, Tm.flat_len]; exact hf.small
  have hpos : 0 < l.length := by rw [← hf.flat, Tm.flat_len]; exact t.size_pos
  have htl : ∀ L c, (tvT L c t 0).length = l.length := fun L c => by rw [tvT_len, ← Tm.flat_len, hf.flat]
  have hel : (t.ends 0).length = l.length := by rw [Tm.ends_len, ← Tm.flat_len, hf.flat]
  have HTV := Lib.hid fun i k v (hi : l[i]? = some (k, v)) => by have := tv_at L1 c1 t hf.ok i k v (by rw [hf.flat]; exact hi); rw [hf.flat] at this; exact this
  have HSUB := Lib.hid fun i (hi : i < l.length) => by have h := subs_at t hf.ok i (by rw [← Tm.flat_len, hf.flat]; exact hi); rw [hf.flat] at h; exact h
  obtain ⟨a, cap, rfl, hr⟩ := h
  obtain ⟨al1, cl1, rfl, hrl1⟩ := hL1
  obtain ⟨al2, cl2, rfl, hrl2⟩ := hL2
  have HR := Lib.hid hr
  have HF := Lib.hid hf
  have htlA := htl L1 c1
  have htlB := htl L2 c2
  have hll : ((L1.length : Int) != (L2.length : Int)) = false := by rw [hlen]; simp
  have HEB := Lib.hid fun i (hi : i + 1 < l.length) => show (t.ends 0)[i + 1]? = some (secAt (t.ends 0) i : Int) ∧ secAt (t.ends 0) i ≤ 60 from by
    have hi2 : i + 1 < (t.ends 0).length := by rw [hel]; exact hi
    have h1 := List.getElem?_eq_getElem hi2
    have h2 := (ends_nest t 0).1 (i + 1) hi2
    have h3 : t.size ≤ 60 := hf.small
    have e : secAt (t.ends 0) i = ((t.ends 0)[i + 1]).toNat := by unfold secAt; rw [List.getD, h1]; rfl
    rw [h1, e]
    exact ⟨by congr 1; omega, by omega⟩
  generalize t.ends 0 = es at *
  generalize tvT L1 c1 t 0 = A at *
  generalize tvT L2 c2 t 0 = B at *
  have HTA := Lib.hid htlA
  have HTB := Lib.hid htlB
  have HEL := Lib.hid hel
  clear hen hf hr hrl1 hrl2 ht htl htlA htlB hel hc1 hc2 hlen
  go_enter Tryd.func40, Tryd.ntmps40
  go_wp2_with fail
  refine HTR.out.mono ?_
  rintro e w1 ⟨DA, rfl, hoA, hE1⟩
  have HOA := Lib.hid hoA
  have HE1 := Lib.hid hE1
  clear hoA hE1 HTR
  go_wp2_with fail
  refine (HTS.out _ HE1.out).mono ?_
  rintro e w2 ⟨DB, rfl, hoB, hE2⟩
  have HOB := Lib.hid hoB
  have HOA2 := Lib.hid (own_ext HOA.out hE2)
  have HE2 := Lib.hid (HE1.out.trans hE2)
  clear hoB hE2 HTS HOA HE1
  go_wp2_with fail
  refine (HEN.out _ HE2.out).mono ?_
  rintro e w3 ⟨hE3, v3, rfl, hown3⟩
  obtain ⟨ae, ce, rfl, hre⟩ := hown3.row
  have HRE := Lib.hid hre
  have HE3 := Lib.hid (HE2.out.trans hE3)
  have HRA := Lib.hid (show Row w3 1 (some ⟨DA, 0, none⟩) l.length l.length (A.map .bool) from by
    obtain ⟨_, _, e, h⟩ := (own_ext HOA2.out hE3).row
    simp only [Value.slice.injEq] at e
    obtain ⟨rfl, _, rfl⟩ := e
    exact h)
  have HRB := Lib.hid (show Row w3 1 (some ⟨DB, 0, none⟩) l.length l.length (B.map .bool) from by
    obtain ⟨_, _, e, h⟩ := (own_ext HOB.out hE3).row
    simp only [Value.slice.injEq] at e
    obtain ⟨rfl, _, rfl⟩ := e
    exact h)
  clear hown3 hre hE3 HEN HE2 HOA2 HOB
  go_wp2_with fail
  go_loopg [51] l.length (fun m x wr => ∃ i : Nat, m + i = l.length ∧ x = .int .i64 (i : Int) ∧ folB l es A B i = true ∧ Ext w3 wr)
  case atStart => exact ⟨0, by omega, by go_num, rfl, Ext.refl _⟩
  case round =>
    obtain ⟨i, hmi, rfl, hfo, hE⟩ := hrel
    have HMI := Lib.hid hmi
    have HFO := Lib.hid hfo
    have HE := Lib.hid hE
    by_cases hi : i < l.length
    · obtain ⟨b, off, hb, hcc⟩ := (HR.out.ext (HE3.out.trans hE)).ops
      obtain rfl := hb hpos
      obtain ⟨k1, k2⟩ := hcc i hi
      have hg : l.getD i (0, 0) = l[i] := by simp [List.getD, List.getElem?_eq_getElem hi]
      have hfs : folB l es A B (i + 1) = (folB l es A B i && (!aheadB l[i].1 || keepB l[i].1 es A B i)) := by rw [folB, hg]
      rw [hfo] at hfs
      have htva := HTV.out i l[i].1 l[i].2 (List.getElem?_eq_getElem hi)
      obtain ⟨s, hS⟩ := HSUB.out i hi
      have hkd : l[i] = (s.kd, s.vl) := by have := hS.op; rw [List.getElem?_eq_getElem hi] at this; exact Option.some.inj this
      obtain ⟨hf1, hf2, -, -⟩ := HF.out.fit l[i] (by simp)
      have HFS := Lib.hid hfs
      have HTW := Lib.hid htva
      have hiI : (i : Int) < (l.length : Int) := by omega
      have hi0 : (0 : Int) ≤ (i : Int) := by omega
      generalize l[i] = o at *
      obtain ⟨k, u⟩ := o
      simp only at k1 k2 hf1 hf2 HFS HTW
      have hx := ext_al hE (Obj.cells #[.int .i64 k, .int .i64 u] 35)
      have hbk := blk_new wr (Obj.cells #[.int .i64 k, .int .i64 u] 35)
      have HX := Lib.hid hx
      have HBK := Lib.hid hbk
      clear hcc hb hfs htva hE hx hbk hmi hfo hg hS hkd
      cases hah : aheadB k
      · have hfs := HFS.out
        rw [hah] at hfs
        have HF1 := Lib.hid (show folB l es A B (i + 1) = true by simpa using hfs)
        have HAH := Lib.hid fun wx => by have h := ah_fn k wx; rw [hah] at h; exact h
        clear hfs hah
        go_upto_region 13 with fail
        have o0 := blk_cell HBK.out (i := 0) rfl
        generalize wr.alloc (Obj.cells #[.int .i64 k, .int .i64 u] 35) = wq at *
        generalize wr.heap.size = O at *
        refine wp_region_quiet_lit (by kernel_rfl) (by kernel_rfl) (Shut.out ?_)
        repeat (refine hq_step (fun K hK => ?_); go_simp; first | (refine hK _ ?_; clear hK K) | (apply Exists.intro; refine ⟨fun _ => ?_, hK _ ?_⟩; (first | (go_at_call 60; exact Calls.quiet_of_same (still_of (HAH.out _)))); clear hK K))
        refine hq_nil ?_
        rintro _ ⟨nq, rfl⟩
        go_wp2_with fail
        go_roundg (gk - 1)
        case measure => have := HMI.out; omega
        case rel => exact ⟨i + 1, by have := HMI.out; omega, by go_num, HF1.out, below_drewN HX.out _⟩
      · have HAH := Lib.hid fun wx => by have h := ah_fn k wx; rw [hah] at h; exact h
        have hfs := HFS.out
        rw [hah] at hfs
        have hk14 : 14 ≤ k := by have := hah; unfold aheadB at this; simp only [decide_eq_true_eq] at this; exact this.1
        have hone := HTW.out.one (by
          rcases (show k = 14 ∨ k = 15 ∨ k = 16 ∨ k = 17 ∨ k = 18 by omega) with rfl | rfl | rfl | rfl | rfl <;> decide)
        obtain ⟨he1, he2⟩ := HEB.out i hone
        have htwo : k = 15 ∨ k = 16 → secAt es i < l.length := fun h => (HTW.out.two (by rcases h with rfl | rfl <;> rfl)).2.2
        obtain ⟨bb, hbb⟩ : ∃ bb, keepB k es A B i = bb := ⟨_, rfl⟩
        have hkv := hbb
        rw [keepV_eq] at hkv
        generalize secAt es i = s at *
        have HKE := Lib.hid fun wx (hw : Ext w3 wx) => by have h := keeps_any wx (some ⟨DA, 0, none⟩) (some ⟨DB, 0, none⟩) l.length l.length l.length A B k i s (HRA.out.ext hw) (HRB.out.ext hw) hone htwo hk14 hf2 hl60; rw [hkv] at h; exact h
        obtain ⟨be, oe, hbe, hce⟩ := row_ints (HRE.out.ext HX.out)
        obtain rfl := hbe (by rw [HEL.out]; omega)
        have ce1 := hce _ _ he1
        have o0 := blk_cell HBK.out (i := 0) (v := .int .i64 k) rfl
        have HFB := Lib.hid (show folB l es A B (i + 1) = bb by rw [hfs, hbb]; rfl)
        have honeE : i + 1 < es.length := by rw [HEL.out]; exact hone
        have hw0 : IntKind.i64.wrap ((i : Int) + 1) = (i : Int) + 1 := IntWalk.i64_in _ (by omega)
        have hi1I : (i : Int) + 1 < (es.length : Int) := by omega
        have hi10 : (0 : Int) ≤ (i : Int) + 1 := by omega
        have hto : ((i : Int) + 1).toNat = i + 1 := by omega
        clear hah he1 he2 htwo hbb hkv hbe hce hfs hone honeE hk14 HTW HFS
        go_upto_region 13 with fail
        have EW := HX.out
        generalize wr.alloc (Obj.cells #[.int .i64 k, .int .i64 u] 35) = wq at *
        generalize wr.heap.size = O at *
        have cur := And.intro o0 ce1
        go_region_held3 (fun w' => w'.cell? ⟨O, 0, none⟩ = some (.int .i64 k) ∧ w'.cell? ⟨be, oe + (i + 1), none⟩ = some (.int .i64 (s : Int)))
          (first | exact cur | exact ⟨cell_later (Below.drew (Ext.refl _)) cur.1, cell_later (Below.drew (Ext.refl _)) cur.2⟩ | go_keep)
          (first
            | (go_at_call 60
               refine (HAH.out _).mono ?_
               rintro e wn ⟨rfl, rfl⟩)
            | (go_at_call 61
               refine (HKE.out _ (by first | exact EW | exact Below.drew EW)).mono ?_
               rintro e wn ⟨rfl, hE⟩
               replace cur := And.intro (cell_later hE (cell_later (Below.drew (Ext.refl _)) cur.1)) (cell_later hE (cell_later (Below.drew (Ext.refl _)) cur.2))
               replace EW : Ext w3 wn := Ext.trans (Below.drew EW) hE))
        all_goals
          have HEW := Lib.hid EW
          cases bb
          · go_wp2
            go_ret2
            exact ⟨by rw [folB_false HFB.out l.length (by omega)]; rfl, (HE3.out.trans HEW.out)⟩
          · go_wp2_with fail
            go_roundg (gk - 1)
            case measure => have := HMI.out; omega
            case rel => exact ⟨i + 1, by have := HMI.out; omega, by go_num, HFB.out, HEW.out⟩
    · obtain rfl : i = l.length := by omega
      have hiI : ¬ (l.length : Int) < (l.length : Int) := by omega
      have HEW := Lib.hid (HE3.out.trans hE)
      clear hmi hE hfo
      go_wp2
      go_ret2
      exact ⟨by rw [HFO.out]; rfl, HEW.out⟩

end Go.Proofs.YtkkbefhnklpfaaaDoor

namespace Go.Proofs.YtkkbefhnklpfaaaDoor
open Go.RowKit

set_option maxRecDepth 100000 in
set_option maxHeartbeats 8000000 in
theorem spot_ok (vv rv pv fv : Value) (m : Md) (P : List Tm) (t : Tm) (s cl : Int) (w : World) (h : IsTask w vv rv pv fv m P t) (ht : Tab w) (hk : TkOk m P t) (hs0 : 0 ≤ s) (hs1 : s < countL m.vars) (hc0 : 0 ≤ cl) :
    Calls Tryd.prog 39 #[.agg #[vv, rv, pv, fv], .agg #[.int .i64 s, .int .i64 cl]] w fun e w' => e = .returned (.bool (decide (cl < ((2 ^ cntA t.flat : Nat) : Int)))) ∧ Ext w w' := by
  have HCO := Lib.hid fun wx (hx : Ext w wx) => count_any vv rv m wx (h.md.ext hx) (ht.ext hx) hk.ok
  have HCL := Lib.hid fun wx (hx : Ext w wx) => claims_n vv rv pv fv m P t wx (h.ext hx) (ht.ext hx) hk
  obtain ⟨av, cv, ar, cr, ap, cp, af, nf, cf, rfl, rfl, rfl, rfl⟩ := h.val
  obtain ⟨N, hN⟩ : ∃ x, 2 ^ cntA t.flat = x := ⟨_, rfl⟩
  rw [hN] at HCL ⊢
  obtain ⟨C, hC⟩ : ∃ x, countL m.vars = x := ⟨_, rfl⟩
  rw [hC] at HCO hs1
  generalize m.vars.length = nv at *
  generalize m.rules.length = nr at *
  generalize P.length = np at *
  clear h ht hk hN hC
  have hb := blk_new w (Obj.cells #[.slice av nv cv, .slice ar nr cr, .slice ap np cp, .slice af nf cf] 49)
  have hx := ext_al (Ext.refl (w.alloc (Obj.cells #[.slice av nv cv, .slice ar nr cr, .slice ap np cp, .slice af nf cf] 49))) (Obj.cells #[.int .i64 s, .int .i64 cl] 59)
  have hb2 := blk_new (w.alloc (Obj.cells #[.slice av nv cv, .slice ar nr cr, .slice ap np cp, .slice af nf cf] 49)) (Obj.cells #[.int .i64 s, .int .i64 cl] 59)
  rw [World.size_alloc] at hb2
  have HE := Lib.hid ((ext_al (Ext.refl w) (Obj.cells #[.slice av nv cv, .slice ar nr cr, .slice ap np cp, .slice af nf cf] 49)).trans hx)
  have HB := Lib.hid (blk_ext hb hx)
  have HS := Lib.hid hb2
  have d0 := blk_cell (blk_ext hb hx) (i := 0) rfl
  have d1 := blk_cell (blk_ext hb hx) (i := 1) rfl
  clear hb hx hb2
  go_enter Tryd.func39, Tryd.ntmps39
  go_wp2_with fail
  generalize (w.alloc (Obj.cells #[.slice av nv cv, .slice ar nr cr, .slice ap np cp, .slice af nf cf] 49)).alloc (Obj.cells #[.int .i64 s, .int .i64 cl] 59) = W1 at *
  refine (HCO.out _ HE.out).mono ?_
  rintro e w2 ⟨rfl, hE2⟩
  have HX2 := Lib.hid (HE.out.trans hE2)
  have hb2 := blk_ext HB.out hE2
  have hs2 := blk_ext HS.out hE2
  have d0 := blk_cell hb2 (i := 0) rfl
  have d1 := blk_cell hb2 (i := 1) rfl
  have d2 := blk_cell hb2 (i := 2) rfl
  have d3 := blk_cell hb2 (i := 3) rfl
  have s0 := blk_cell hs2 (i := 0) rfl
  have s1 := blk_cell hs2 (i := 1) rfl
  have HS2 := Lib.hid hs2
  have k1 : decide (0 ≤ s) = true := decide_eq_true hs0
  have k2 : decide (s < C) = true := decide_eq_true hs1
  have k3 : decide (0 ≤ cl) = true := decide_eq_true hc0
  clear hE2 hb2 hs2
  go_upto_region 2 with fail
  go_region_law (first
    | (go_simp
       go_at_call 33
       refine (HCL.out _ (HX2.out.trans (Below.drew (Ext.refl _)))).mono ?_
       rintro e w5 ⟨rfl, hE5⟩
       have s05 := blk_cell (blk_ext HS2.out (Ext.trans (Below.drew (Ext.refl _)) hE5)) (i := 0) rfl
       have s15 := blk_cell (blk_ext HS2.out (Ext.trans (Below.drew (Ext.refl _)) hE5)) (i := 1) rfl
       have HE5 := Lib.hid (HX2.out.trans (Ext.trans (Below.drew (Ext.refl _)) hE5))
       clear hE5))
  all_goals
    go_wp2
    go_ret
    exact ⟨rfl, HE5.out⟩

/-- Spots at a state, with the claims below a number that follow. -/
def behN (F : Int → Nat → Bool) (n : Int) (i : Nat) : List (Int × Int) := ((List.range i).filter (F n)).map fun c : Nat => (n, (c : Int))
theorem behN_yes {F : Int → Nat → Bool} {n : Int} {i : Nat} (h : F n i = true) : behN F n (i + 1) = behN F n i ++ [(n, (i : Int))] := by
  unfold behN
  rw [List.range_succ, List.filter_append, List.map_append]
  simp [h]
theorem behN_no {F : Int → Nat → Bool} {n : Int} {i : Nat} (h : F n i = false) : behN F n (i + 1) = behN F n i := by
  unfold behN
  rw [List.range_succ, List.filter_append, List.map_append]
  simp [h]
theorem behN_len (F : Int → Nat → Bool) (n : Int) (i : Nat) : (behN F n i).length ≤ i := by
  unfold behN
  rw [List.length_map]
  exact Nat.le_trans (List.length_filter_le _ _) (by simp)
def behL (F : Int → Nat → Bool) (N : Nat) (ns : List Int) : List (Int × Int) := ns.flatMap fun n => behN F n N
theorem behL_succ {F : Int → Nat → Bool} {N : Nat} {ns : List Int} {i : Nat} (hi : i < ns.length) : behL F N (ns.take (i + 1)) = behL F N (ns.take i) ++ behN F ns[i] N := by
  unfold behL
  rw [List.take_succ_eq_append_getElem hi, List.flatMap_append]
  simp
theorem behL_len (F : Int → Nat → Bool) (N : Nat) : ∀ (ns : List Int), (behL F N ns).length ≤ ns.length * N
  | [] => by simp [behL]
  | n :: ns => by
    have h1 := behL_len F N ns
    have h2 := behN_len F n N
    unfold behL at *
    rw [List.flatMap_cons, List.length_append, List.length_cons, Nat.add_mul]
    omega
/-- Does a claim at a state follow another one? -/
def folX (m : Md) (P : List Tm) (t : Tm) (s : Int) (cl : Nat) (n : Int) (c : Nat) : Bool :=
  folB t.flat (t.ends 0) (tvT (letS P (valsL m.vars s)) cl t 0) (tvT (letS P (valsL m.vars n)) c t 0) t.flat.length

set_option maxRecDepth 100000 in
set_option maxHeartbeats 16000000 in
theorem pbehind_any (vv rv pv fv : Value) (m : Md) (P : List Tm) (t : Tm) (s : Int) (cl : Nat) (w : World) (h : IsTask w vv rv pv fv m P t) (ht : Tab w) (hk : TkOk m P t) (hs0 : 0 ≤ s) (hs1 : s < countL m.vars) (hc0 : cl < 2 ^ cntA t.flat) :
    Calls Tryd.prog 21 #[.agg #[vv, rv, pv, fv], .agg #[.int .i64 s, .int .i64 (cl : Int)]] w fun e w' => ∃ v, e = .returned (.tuple #[v, .int .i64 0]) ∧
      w'.ownsRow w.heap.size 59 2 v (behL (folX m P t s cl) (2 ^ cntA t.flat) (nextL m s)).length ((behL (folX m P t s cl) (2 ^ cntA t.flat) (nextL m s)).flatMap spc) ∧ Ext w w' := by
  have HCK := Lib.hid fun wx (hx : Ext w wx) => pcheck_any vv rv pv fv m P t wx (h.ext hx) (ht.ext hx) hk
  have HCL := Lib.hid fun wx (hx : Ext w wx) => claims_n vv rv pv fv m P t wx (h.ext hx) (ht.ext hx) hk
  have HSP := Lib.hid fun wx (hx : Ext w wx) => (show Calls Tryd.prog 39 #[.agg #[vv, rv, pv, fv], .agg #[.int .i64 s, .int .i64 (cl : Int)]] wx fun e w' => e = .returned (.bool true) ∧ Ext wx w' from by
    have h1 := spot_ok vv rv pv fv m P t s (cl : Int) wx (h.ext hx) (ht.ext hx) hk hs0 hs1 (by omega)
    rw [decide_eq_true (show (cl : Int) < ((2 ^ cntA t.flat : Nat) : Int) by omega)] at h1
    exact h1)
  have HLE := Lib.hid fun (n : Int) wx (hx : Ext w wx) (hn : 0 ≤ n ∧ n < countL m.vars) => sletter_any vv rv pv m P n wx (h.md.ext hx) (ht.ext hx) hk.ok (h.pr.ext hx) hk.pk hn.1 hn.2
  have HNX := Lib.hid fun wx (hx : Ext w wx) => nextE_any vv rv m s wx (h.md.ext hx) (ht.ext hx) hk.ok hk.v0 hs0 hs1
  have HNI := Lib.hid fun n (hn : n ∈ nextL m s) => (show 0 ≤ n ∧ n < countL m.vars from NextP.in hk.ok.toPre hs0 hs1 (((nextL_ok m s).mem n).1 hn))
  have HLL := Lib.hid fun n => letS_len P (valsL m.vars n)
  have HFO := Lib.hid fun (v1 v2 : Value) (n : Int) (c : Nat) wx (hx : Ext w wx) (h1 : Bools wx v1 (letS P (valsL m.vars s))) (h2 : Bools wx v2 (letS P (valsL m.vars n))) (hc : c < 2 ^ cntA t.flat) => (show Calls Tryd.prog 40 #[fv, v1, .int .i64 (cl : Int), v2, .int .i64 (c : Int)] wx fun e w' => e = .returned (.tuple #[.bool (folX m P t s cl n c), .int .i64 0]) ∧ Ext wx w' from
    follows_any fv t.flat t v1 v2 (letS P (valsL m.vars s)) (letS P (valsL m.vars n)) cl c wx (h.fo.ext hx) (ht.ext hx) (by rw [letS_len]; exact hk.ff) h1 h2 (by rw [letS_len, letS_len]) hc0 hc)
  have hp2 : 2 ^ cntA t.flat ≤ 64 := by
    have := Nat.pow_le_pow_right (n := 2) (by omega) hk.ff.cnt
    simpa using this
  have hn1 := (nextL_len m s).1
  have hn2 : (nextL m s).length ≤ 12 := by have := (nextL_len m s).2; have := hk.ok.twelve; omega
  have hp6 := hk.pk.six
  obtain ⟨av, cv, ar, cr, ap, cp, af, nf, cf, rfl, rfl, rfl, rfl⟩ := h.val
  generalize folX m P t s cl = F at *
  generalize nextL m s = ns at *
  obtain ⟨LT, hLT⟩ : ∃ LT : Int → List Bool, (fun n => letS P (valsL m.vars n)) = LT := ⟨_, rfl⟩
  have hLTa : ∀ n, letS P (valsL m.vars n) = LT n := fun n => by rw [← hLT]
  simp only [hLTa] at HLE HFO HLL
  obtain ⟨C, hC⟩ : ∃ x, countL m.vars = x := ⟨_, rfl⟩
  rw [hC] at HLE HNI hs1
  obtain ⟨N, hN⟩ : ∃ x, 2 ^ cntA t.flat = x := ⟨_, rfl⟩
  rw [hN] at HCL HFO hp2 hc0 ⊢
  clear h ht hk hLT hLTa hC hN
  generalize m.vars.length = nv at *
  generalize m.rules.length = nr at *
  generalize P.length = np at *
  have hb := blk_new w (Obj.cells #[.slice av nv cv, .slice ar nr cr, .slice ap np cp, .slice af nf cf] 49)
  have hx := ext_al (Ext.refl (w.alloc (Obj.cells #[.slice av nv cv, .slice ar nr cr, .slice ap np cp, .slice af nf cf] 49))) (Obj.cells #[.int .i64 s, .int .i64 (cl : Int)] 59)
  have hb2 := blk_new (w.alloc (Obj.cells #[.slice av nv cv, .slice ar nr cr, .slice ap np cp, .slice af nf cf] 49)) (Obj.cells #[.int .i64 s, .int .i64 (cl : Int)] 59)
  rw [World.size_alloc] at hb2
  have HE := Lib.hid ((ext_al (Ext.refl w) (Obj.cells #[.slice av nv cv, .slice ar nr cr, .slice ap np cp, .slice af nf cf] 49)).trans hx)
  have HB := Lib.hid (blk_ext hb hx)
  have HS := Lib.hid hb2
  have d0 := blk_cell HB.out (i := 0) rfl
  have d1 := blk_cell HB.out (i := 1) rfl
  have d2 := blk_cell HB.out (i := 2) rfl
  have d3 := blk_cell HB.out (i := 3) rfl
  clear hb hx hb2
  go_enter Tryd.func21, Tryd.ntmps21
  go_wp2_with fail
  generalize (w.alloc (Obj.cells #[.slice av nv cv, .slice ar nr cr, .slice ap np cp, .slice af nf cf] 49)).alloc (Obj.cells #[.int .i64 s, .int .i64 (cl : Int)] 59) = W1 at *
  refine (HCK.out _ HE.out).mono ?_
  rintro e w2 ⟨rfl, hE2⟩
  have HY2 := Lib.hid hE2
  have d0 := blk_cell (blk_ext HB.out hE2) (i := 0) rfl
  have d1 := blk_cell (blk_ext HB.out hE2) (i := 1) rfl
  have d2 := blk_cell (blk_ext HB.out hE2) (i := 2) rfl
  have d3 := blk_cell (blk_ext HB.out hE2) (i := 3) rfl
  have s0 := blk_cell (blk_ext HS.out hE2) (i := 0) rfl
  have s1 := blk_cell (blk_ext HS.out hE2) (i := 1) rfl
  clear hE2
  go_wp2_with fail
  refine (HSP.out _ (HE.out.trans HY2.out)).mono ?_
  rintro e w3 ⟨rfl, hE3⟩
  have HY3 := Lib.hid (HY2.out.trans hE3)
  have d0 := blk_cell (blk_ext HB.out HY3.out) (i := 0) rfl
  have d1 := blk_cell (blk_ext HB.out HY3.out) (i := 1) rfl
  have d2 := blk_cell (blk_ext HB.out HY3.out) (i := 2) rfl
  have s0 := blk_cell (blk_ext HS.out HY3.out) (i := 0) rfl
  clear hE3 d3 s1
  go_wp2_with fail
  refine (HLE.out s _ (HE.out.trans HY3.out) ⟨hs0, hs1⟩).mono ?_
  rintro e w4 ⟨v4, rfl, ho4, hE4⟩
  obtain ⟨a4, c4, rfl, _⟩ := id ho4.row
  have HBO := Lib.hid (show Bools w4 (.slice a4 np c4) (LT s) from by
    have h := ho4.reads
    unfold Bools
    rw [HLL.out]
    exact h)
  have HY4 := Lib.hid (HY3.out.trans hE4)
  have d0 := blk_cell (blk_ext HB.out HY4.out) (i := 0) rfl
  have d1 := blk_cell (blk_ext HB.out HY4.out) (i := 1) rfl
  have s0 := blk_cell (blk_ext HS.out HY4.out) (i := 0) rfl
  clear hE4 ho4 d2
  go_wp2_with fail
  refine (HNX.out _ (HE.out.trans HY4.out)).mono ?_
  rintro e w5 ⟨v5, rfl, ho5, hE5⟩
  obtain ⟨Q5, c5, rfl⟩ := own_shape ho5 hn1
  have HY5 := Lib.hid (HY4.out.trans hE5)
  have HBO5 := Lib.hid (HBO.out.ext hE5)
  have HO5 := Lib.hid ho5
  clear hE5 ho5 d0 d1 s0 HBO
  have HO0 := Lib.hid (show w5.ownsRow w5.heap.size 59 2 (.slice none 0 0) (behL F N (ns.take 0)).length ((behL F N (ns.take 0)).flatMap spc) from World.ownsRow_nil _ _ _ _)
  have HBL := Lib.hid fun i => behL_len F N (ns.take i)
  have HBN := Lib.hid fun n i => behN_len F n i
  go_wp2_with fail
  go_loopg [48, 11] ns.length (fun g x y wr => ∃ (i : Nat) (ab : Option Addr) (cb : Nat), g + i = ns.length ∧ x = .int .i64 (i : Int) ∧ y = .slice ab (behL F N (ns.take i)).length cb ∧ Ext w5 wr ∧ wr.ownsRow w5.heap.size 59 2 (.slice ab (behL F N (ns.take i)).length cb) (behL F N (ns.take i)).length ((behL F N (ns.take i)).flatMap spc))
  case atStart => exact ⟨0, none, 0, by omega, by go_num, rfl, Ext.refl _, HO0.out⟩
  case round =>
    obtain ⟨i, ab, cb, hgi, rfl, rfl, hE, hO⟩ := hrel
    have HGI := Lib.hid hgi
    have HEE := Lib.hid hE
    have HOO := Lib.hid hO
    clear HO0
    by_cases hi : i < ns.length
    · have hbr := blk_ext HB.out (HY5.out.trans hE)
      have d0 := blk_cell hbr (i := 0) rfl
      have d1 := blk_cell hbr (i := 1) rfl
      have d2 := blk_cell hbr (i := 2) rfl
      have cn := own_cellAt (own_ext HO5.out hE) (i := i) (by simpa using hi)
      rw [List.getElem_map] at cn
      have hnb := HNI.out ns[i] (by simp)
      have HLN := Lib.hid (HLE.out ns[i] wr (HE.out.trans (HY5.out.trans hE)) hnb)
      have HSC := Lib.hid (behL_succ (F := F) (N := N) hi)
      have hbl := HBL.out i
      have htk : (ns.take i).length ≤ 12 := by rw [List.length_take]; omega
      have hbl2 : (behL F N (ns.take i)).length ≤ 12 * 64 := Nat.le_trans hbl (Nat.mul_le_mul htk hp2)
      have hiI : (i : Int) < (ns.length : Int) := by omega
      have hi0 : (0 : Int) ≤ (i : Int) := by omega
      generalize ns[i] = n at *
      generalize behL F N (ns.take i) = X at *
      obtain ⟨nX, hnX⟩ : ∃ x, X.length = x := ⟨_, rfl⟩
      rw [hnX] at HOO hbl2 ⊢
      have HNX2 := Lib.hid hnX
      clear hgi hE hO hbr hnb hbl htk hnX
      go_wp2_with fail
      refine HLN.out.mono ?_
      rintro e w6 ⟨v6, rfl, ho6, hE6⟩
      obtain ⟨a6, c6, rfl, _⟩ := id ho6.row
      have HY6 := Lib.hid (HEE.out.trans hE6)
      have hbr := blk_ext HB.out (HY5.out.trans HY6.out)
      have d0 := blk_cell hbr (i := 0) rfl
      have d1 := blk_cell hbr (i := 1) rfl
      have d2 := blk_cell hbr (i := 2) rfl
      have d3 := blk_cell hbr (i := 3) rfl
      have HO6 := Lib.hid ho6
      have HLO6 := Lib.hid (own_ext HOO.out hE6)
      have HSEP := Lib.hid (show ∀ b, (Value.slice ab nX cb).ownBlock = some b → (Value.slice a6 np c6).ownBlock ≠ some b from fun b h1 h2 => by
        have := (HOO.out.lt b h1).2
        have := (ho6.lt b h2).1
        omega)
      clear hbr ho6 hE6 cn
      go_wp2_with fail
      refine (HCL.out _ (HE.out.trans (HY5.out.trans HY6.out))).mono ?_
      rintro e w7 ⟨rfl, hE7⟩
      have HY7 := Lib.hid (HY6.out.trans hE7)
      have HO7 := Lib.hid (own_ext HO6.out hE7)
      have HLO7 := Lib.hid (own_ext HLO6.out hE7)
      obtain ⟨B6, hB6⟩ : ∃ x, wr.heap.size = x := ⟨_, rfl⟩
      rw [hB6] at HO7
      clear hE7 d0 d1 d2 d3 hB6
      go_wp2_with fail
      obtain ⟨wo, rfl⟩ : ∃ wo : World, wo = wr := ⟨_, rfl⟩
      obtain ⟨G0, rfl⟩ : ∃ G0 : Nat, G0 = gk := ⟨_, rfl⟩
      go_loopg [63, 11] N (fun g x y wq => ∃ (c : Nat) (ab' : Option Addr) (cb' : Nat), g + c = N ∧ x = .int .i64 (c : Int) ∧ y = .slice ab' (nX + (behN F n c).length) cb' ∧ Ext w5 wq ∧ wq.ownsRow w5.heap.size 59 2 (.slice ab' (nX + (behN F n c).length) cb') (nX + (behN F n c).length) ((X ++ behN F n c).flatMap spc) ∧ (∀ b, (Value.slice ab' (nX + (behN F n c).length) cb').ownBlock = some b → (Value.slice a6 np c6).ownBlock ≠ some b) ∧ wq.ownsRow B6 4 1 (.slice a6 np c6) np ((LT n).map .bool))
      case atStart => exact ⟨0, ab, cb, by omega, by go_num, rfl, HY7.out, by simpa [behN] using HLO7.out, HSEP.out, HO7.out⟩
      case round =>
        obtain ⟨c, ab', cb', hgc, rfl, rfl, hE, hO, hSep, hL⟩ := hrel
        have HGC := Lib.hid hgc
        have HEQ := Lib.hid hE
        have HOQ := Lib.hid hO
        have HSQ := Lib.hid hSep
        have HLQ := Lib.hid hL
        by_cases hc : c < N
        · have hbr := blk_ext HB.out (HY5.out.trans hE)
          have hbs := blk_ext HS.out (HY5.out.trans hE)
          have d2 := blk_cell hbr (i := 2) rfl
          have d3 := blk_cell hbr (i := 3) rfl
          have s1 := blk_cell hbs (i := 1) rfl
          have HFC := Lib.hid (HFO.out (.slice a4 np c4) (.slice a6 np c6) n c wr (HE.out.trans (HY5.out.trans hE)) (HBO5.out.ext hE) (by
            have h := hL.reads
            unfold Bools
            rw [HLL.out]
            exact h) hc)
          have hbn := HBN.out n c
          have HYS := Lib.hid fun h => behN_yes (F := F) (n := n) (i := c) h
          have HNO := Lib.hid fun h => behN_no (F := F) (n := n) (i := c) h
          obtain ⟨q, hq⟩ : ∃ q, F n c = q := ⟨_, rfl⟩
          rw [hq] at HFC HYS HNO
          have hcI : (c : Int) < (N : Int) := by omega
          have hc0' : (0 : Int) ≤ (c : Int) := by omega
          obtain ⟨nB, hnB⟩ : ∃ x, (behN F n c).length = x := ⟨_, rfl⟩
          rw [hnB] at HOQ HSQ hbn ⊢
          have HNB := Lib.hid hnB
          clear hgc hE hO hSep hL hbr hbs hq hnB
          go_wp2_with fail
          refine HFC.out.mono ?_
          rintro e w8 ⟨rfl, hE8⟩
          have HE8 := Lib.hid (HEQ.out.trans hE8)
          have HO8 := Lib.hid (own_ext HOQ.out hE8)
          have HL8 := Lib.hid (own_ext HLQ.out hE8)
          clear hE8 d2 d3 s1
          cases q
          · have HBE := Lib.hid (HNO.out (by first | rfl | trivial))
            go_wp2_with fail
            go_roundg (gk - 1)
            case measure => have := HGC.out; omega
            case rel => exact ⟨c + 1, ab', cb', by have := HGC.out; omega, by go_num, by rw [HBE.out, HNB.out], HE8.out, by rw [HBE.out, HNB.out]; exact HO8.out, by rw [HBE.out, HNB.out]; exact HSQ.out, HL8.out⟩
          · have HO9 := Lib.hid fun (o : Obj) => own_ext HO8.out (ext_al (Ext.refl w8) o)
            have hs8 := HE8.out.size
            go_wp2_with (at_builtin; go_must (refine wpl_append rfl rfl Tryd.slSpots w5.heap.size rfl (HO9.out _) rfl (Row.newK _ _ 2 _ _ rfl rfl) (by intro u hu; simp only [List.mem_cons, List.not_mem_nil, or_false] at hu; rcases hu with rfl | rfl <;> rfl) (by unfold maxLen; omega) (by omega) (by simp; omega) ?_))
            intro vA wA hownA hgA hbA _
            obtain ⟨aA, cA, rfl, _⟩ := id hownA.row
            have hAA := ext_al (Ext.refl w8) (Obj.cells #[.int .i64 n, .int .i64 (c : Int)] 59)
            have HEA := Lib.hid (show Ext w5 wA from Below.grown (HE8.out.trans hAA) hgA (HE8.out.trans hAA).size (fun b hb => ((HO9.out (Obj.cells #[] 0)).lt b hb).1))
            have hbe := HYS.out (by first | rfl | trivial)
            have hbl3 : (behN F n (c + 1)).length = nB + 1 := by rw [hbe, List.length_append, HNB.out]; rfl
            have HOA := Lib.hid (show wA.ownsRow w5.heap.size 59 2 (.slice aA (nX + nB + 1) cA) (nX + nB + 1) ((X ++ behN F n (c + 1)).flatMap spc) from by
              have e1 : (X ++ behN F n (c + 1)).flatMap spc = X.flatMap spc ++ ((behN F n c).flatMap spc ++ [.int .i64 n, .int .i64 (c : Int)]) := by rw [hbe]; simp [spc]
              rw [e1]
              exact hownA)
            have HLA := Lib.hid (own_grown (own_ext HL8.out hAA) hgA (by
              cases hv : (Value.slice a6 np c6).ownBlock with
              | none => exact .inl rfl
              | some b => exact .inr fun e => HSQ.out b e.symm hv))
            have HSA := Lib.hid (show ∀ b, (Value.slice aA (nX + nB + 1) cA).ownBlock = some b → (Value.slice a6 np c6).ownBlock ≠ some b from fun b h1 h2 => by
              rcases hbA with h | h
              · rw [h] at h1; exact HSQ.out b h1 h2
              · rw [h] at h1
                injection h1 with h1
                have := (HL8.out.lt b h2).2
                first | omega | (simp at h1; omega))
            have HB3 := Lib.hid hbl3
            clear hownA hgA hbA hAA hbe hbl3
            go_wp2_with fail
            go_roundg (gk - 1)
            case measure => have := HGC.out; omega
            case rel => exact ⟨c + 1, aA, cA, by have := HGC.out; omega, by go_num, by rw [HB3.out]; rfl, HEA.out, by rw [HB3.out]; exact HOA.out, by rw [HB3.out]; exact HSA.out, HLA.out⟩
        · have hcn : c = N := by have := HGC.out; omega
          have hcI : ¬ (c : Int) < (N : Int) := by omega
          have hlen : (behL F N (ns.take (i + 1))).length = nX + (behN F n c).length := by rw [HSC.out, List.length_append, HNX2.out, hcn]
          have HFL := Lib.hid hlen
          have HOF := Lib.hid (show wr.ownsRow w5.heap.size 59 2 (.slice ab' (nX + (behN F n c).length) cb') (nX + (behN F n c).length) ((behL F N (ns.take (i + 1))).flatMap spc) from by
            rw [HSC.out, ← hcn]
            exact hO)
          clear hgc hE hO hSep hL hcn hlen
          go_wp2_with fail
          go_roundg (G0 - 1)
          case measure => have := HGI.out; omega
          case rel => exact ⟨i + 1, ab', cb', by have := HGI.out; omega, by go_num, by rw [HFL.out], HEQ.out, by rw [HFL.out]; exact HOF.out⟩
    · have hin : i = ns.length := by have := HGI.out; omega
      have hiI : ¬ (i : Int) < (ns.length : Int) := by omega
      have HOF := Lib.hid (show wr.ownsRow w5.heap.size 59 2 (.slice ab (behL F N (ns.take i)).length cb) (behL F N ns).length ((behL F N ns).flatMap spc) from by
        have h := hO
        rw [hin, List.take_length] at h ⊢
        exact h)
      have HEF := Lib.hid (HE.out.trans (HY5.out.trans hE))
      have hs5 := (HE.out.trans HY5.out).size
      clear hgi hE hO hin
      go_wp2
      go_ret2
      exact ⟨_, rfl, own_down HOF.out hs5, HEF.out⟩

end Go.Proofs.YtkkbefhnklpfaaaDoor

namespace Go.Proofs.YtkkbefhnklpfaaaDoor
open Go.RowKit

/-- What leads on; where it begins; what may be a spot; its sets. -/
def bX (m : Md) (P : List Tm) (t : Tm) (x : Sp2) : List Sp2 := behL (folX m P t x.1 x.2.toNat) (2 ^ cntA t.flat) (nextL m x.1)
def iX (m : Md) (P : List Tm) (t : Tm) : List Sp2 := begL m.first (letS P (valsL m.vars m.first)) t (2 ^ cntA t.flat)
def oX (m : Md) (t : Tm) (x : Sp2) : Prop := 0 ≤ x.1 ∧ x.1 < countL m.vars ∧ 0 ≤ x.2 ∧ x.2 < ((2 ^ cntA t.flat : Nat) : Int)
def sX (m : Md) (P : List Tm) (t : Tm) (x : Sp2) : Int := (meUp t.flat (t.ends 0) (tvT (letS P (valsL m.vars x.1)) x.2.toNat t 0) t.flat.length : Nat)

theorem iX_nodup (m : Md) (P : List Tm) (t : Tm) : (iX m P t).Nodup := by
  unfold iX begL
  rw [List.Nodup, List.pairwise_map]
  refine ((List.nodup_range (n := 2 ^ cntA t.flat)).filter _).imp fun h e => h ?_
  have e2 := congrArg Prod.snd e
  exact Int.ofNat.inj e2
theorem iX_ok {m : Md} {P : List Tm} {t : Tm} (hk : TkOk m P t) : ∀ x ∈ iX m P t, oX m t x := by
  intro x hx
  unfold iX begL at hx
  obtain ⟨c, hc, rfl⟩ := List.mem_map.1 hx
  have h1 := List.mem_range.1 (List.mem_filter.1 hc).1
  have h2 := codeL_bd hk.ok.vars (inits_in hk.ok.vars)
  exact ⟨h2.1, h2.2, by omega, by show (c : Int) < _; omega⟩
theorem bX_ok {m : Md} {P : List Tm} {t : Tm} (hk : TkOk m P t) {x : Sp2} (hx : oX m t x) : ∀ y ∈ bX m P t x, oX m t y := by
  intro y hy
  unfold bX behL at hy
  obtain ⟨n, hn, hy⟩ := List.mem_flatMap.1 hy
  unfold behN at hy
  obtain ⟨c, hc, rfl⟩ := List.mem_map.1 hy
  have h1 := List.mem_range.1 (List.mem_filter.1 hc).1
  have h2 := NextP.in hk.ok.toPre hx.1 hx.2.1 (((nextL_ok m x.1).mem n).1 hn)
  exact ⟨h2.1, h2.2, by omega, by show (c : Int) < _; omega⟩

theorem bX_len {m : Md} {P : List Tm} {t : Tm} (hk : TkOk m P t) (x : Sp2) : (bX m P t x).length ≤ 768 := by
  have h1 := behL_len (folX m P t x.1 x.2.toNat) (2 ^ cntA t.flat) (nextL m x.1)
  have h2 : (nextL m x.1).length ≤ 12 := by
    have := (nextL_len m x.1).2
    have := hk.ok.twelve
    omega
  have h3 : 2 ^ cntA t.flat ≤ 64 := by
    have := Nat.pow_le_pow_right (n := 2) (by omega) hk.ff.cnt
    simpa using this
  have h4 := Nat.mul_le_mul h2 h3
  unfold bX
  omega

section
variable {τ : Nat → Nat} {B A M : Nat} {w0 w wa w' : World} {sp nx st : Value} {ini many : Int} {S : List Sp2} {L : List (List Int)} {T : List Int}
theorem ABox.retag (h : ABox τ B A M w0 w sp nx st ini many S L T) (t : Nat) : ABox (tagAt τ w.heap.size t) B A M w0 w sp nx st ini many S L T := ⟨h.m.retag t, h.a, h.mp, h.alt, h.mlt, h.ne, h.alo, h.mlo, h.e⟩
theorem ABox.app5 (h : ABox τ B A M w0 w sp nx st ini many S L T) {lv lv' : Value} {n n' : Nat} {xs xs' : List Value} (hc : OwnT τ 5 w B 3 1 lv n xs) (hg : w.grownBy w' lv.ownBlock)
    (ho : w'.ownsRow B 3 1 lv' n' xs') (hb : lv'.ownBlock = lv.ownBlock ∨ lv'.ownBlock = some w.heap.size) :
    ABox (tagAt τ w.heap.size 5) B A M w0 w' sp nx st ini many S L T ∧ OwnT (tagAt τ w.heap.size 5) 5 w' B 3 1 lv' n' xs' ∧ ∀ P, Ent τ 8 w P → Ent (tagAt τ w.heap.size 5) 8 w' P := by
  obtain ⟨vs, h1, h2⟩ := h.m.nx
  have hlow : ∀ k, k < B → some k ≠ lv.ownBlock := fun k hk e => by have := (hc.own.lt k e.symm).1; omega
  have hA := h.alt
  have hM := h.mlt
  refine ⟨⟨⟨fun b hb => by have := h.m.size; rw [tagAt_lt (by omega)]; exact h.m.lo b hb, Nat.le_trans h.m.size hg.size, h.m.sp.other hc hg (by omega), ⟨vs, h1.other hc hg (by omega), h2.app hc hg (by omega)⟩, h.m.st.other hc hg (by omega)⟩,
    blk_grown h.a hg (hlow A hA), h.mp.grown hg (hlow M hM), hA, hM, h.ne, h.alo, h.mlo, ?_⟩, hc.app ho hb, fun P hP => hP.app hc hg (by omega)⟩
  exact Below.grown h.e hg h.e.size (fun b hb => by have := (hc.own.lt b hb).1; have := h.alo; omega)

theorem ABox.start (w : World) (ini many : Int) (M : Nat) (hM : M = w.heap.size) :
    ABox (fun _ => 0) (M + 2) (M + 1) M w ((w.alloc (Obj.map #[] 0)).alloc (Obj.cells #[.slice none 0 0, .int .i64 ini, .slice none 0 0, .slice none 0 0, .int .i64 many, .map (some M)] 102)) (.slice none 0 0) (.slice none 0 0) (.slice none 0 0) ini many [] [] [] := by
  subst hM
  have h1 := ext_al (Ext.refl (w.alloc (Obj.map #[] 0))) (Obj.cells #[.slice none 0 0, .int .i64 ini, .slice none 0 0, .slice none 0 0, .int .i64 many, .map (some w.heap.size)] 102)
  have h2 := blk_new (w.alloc (Obj.map #[] 0)) (Obj.cells #[.slice none 0 0, .int .i64 ini, .slice none 0 0, .slice none 0 0, .int .i64 many, .map (some w.heap.size)] 102)
  rw [World.size_alloc] at h2
  exact ⟨GMem.nil _ _ (by simp), h2, (MapG.new encSp w).ext h1, by omega, by omega, by omega, by omega, Nat.le_refl _, (ext_al (Ext.refl w) _).trans h1⟩

/-- What grew has grown: its tag is the lists'. -/
def tag53 (τ : Nat → Nat) : Nat → Nat := fun b => if τ b = 5 then 3 else τ b
theorem OwnT.t53 {t : Nat} {e : TypeId} {size n : Nat} {v : Value} {xs : List Value} (h : OwnT τ t w B e size v n xs) (ht : t ≠ 5) : OwnT (tag53 τ) t w B e size v n xs := ⟨h.own, fun b hb => by
  have := h.tag b hb
  unfold tag53
  rw [this, if_neg ht]⟩
theorem Ent.t53 {P : World → Prop} (h : Ent τ 3 w P) : Ent (tag53 τ) 3 w P := fun x hx hb => h x hx fun b h1 h2 => hb b h1 (by unfold tag53; rw [h2]; rfl)
theorem Ent.t55 {P : World → Prop} (h : Ent τ 5 w P) : Ent (tag53 τ) 3 w P := fun x hx hb => h x hx fun b h1 h2 => hb b h1 (by unfold tag53; rw [if_pos h2])
theorem ABox.t53 (h : ABox τ B A M w0 w sp nx st ini many S L T) : ABox (tag53 τ) B A M w0 w sp nx st ini many S L T := by
  obtain ⟨vs, h1, h2⟩ := h.m.nx
  exact ⟨⟨fun b hb => by unfold tag53; rw [h.m.lo b hb]; rfl, h.m.size, h.m.sp.t53 (by omega), ⟨vs, h1.t53 (by omega), h2.t53⟩, h.m.st.t53 (by omega)⟩, h.a, h.mp, h.alt, h.mlt, h.ne, h.alo, h.mlo, h.e⟩

theorem ABox.pushNx (h : ABox τ B A M w0 w sp nx st ini many S L T) (hal : Ext w wa) {v' u : Value} {l : List Int} {n : Nat} {vs xs : List Value} (h1 : OwnT τ 2 w B 57 1 nx L.length vs) (h2 : Ent τ 3 w fun x => Each x vs L) (hu : Ent τ 3 w fun x => Ints x u l)
    (ho : w'.ownsRow B 57 1 v' n xs) (hn : n = L.length + 1) (hx : xs = vs ++ [u]) (hg : wa.grownBy w' nx.ownBlock) (hb : v'.ownBlock = nx.ownBlock ∨ v'.ownBlock = some wa.heap.size) :
    w'.heap[A]? = some (.cells #[sp, .int .i64 ini, nx, st, .int .i64 many, .map (some M)] 102 (0, 0)) ∧ ∃ τ', ABox τ' B A M w0 (w'.setCell ⟨A, 2, none⟩ v') sp v' st ini many S (L ++ [l]) T := by
  have hA := h.alt
  have hM := h.mlt
  have hne := h.ne
  have hlow : ∀ k, k < B → some k ≠ nx.ownBlock := fun k hk e => by have := (h1.own.lt k e.symm).1; omega
  have hA8 := blk_grown (blk_ext h.a hal) hg (hlow A hA)
  refine ⟨hA8, _, ⟨((h.m.ext hal).appNx (h1.ext hal) (h2.ext hal) (hu.ext hal) ho hn hx hg hb).low (p := ⟨A, 2, none⟩) hA v', blk_set hA8 (i := 2) v', ((h.mp.ext hal).grown hg (hlow M hM)).set (p := ⟨A, 2, none⟩) (Ne.symm hne) v', hA, hM, hne, h.alo, h.mlo, ?_⟩⟩
  exact ext_st ((h.e.trans hal).grown hg (h.e.trans hal).size (fun b hb => by have := (h1.own.lt b hb).1; have := h.alo; omega)) (p := ⟨A, 2, none⟩) h.alo v'
theorem ABox.pushSt (h : ABox τ B A M w0 w sp nx st ini many S L T) (hal : Ext w wa) {v' : Value} {n : Nat} {xs : List Value} {x : Int} (ho : w'.ownsRow B 3 1 v' n xs) (hn : n = T.length + 1) (hx : xs = T.map (.int .i64) ++ [.int .i64 x])
    (hg : wa.grownBy w' st.ownBlock) (hb : v'.ownBlock = st.ownBlock ∨ v'.ownBlock = some wa.heap.size) :
    w'.heap[A]? = some (.cells #[sp, .int .i64 ini, nx, st, .int .i64 many, .map (some M)] 102 (0, 0)) ∧ ∃ τ', ABox τ' B A M w0 (w'.setCell ⟨A, 3, none⟩ v') sp nx v' ini many S L (T ++ [x]) := by
  have hA := h.alt
  have hM := h.mlt
  have hne := h.ne
  have hlow : ∀ k, k < B → some k ≠ st.ownBlock := fun k hk e => by have := (h.m.st.own.lt k e.symm).1; omega
  have hA8 := blk_grown (blk_ext h.a hal) hg (hlow A hA)
  refine ⟨hA8, _, ⟨((h.m.ext hal).appSt ho hn hx hg hb).low (p := ⟨A, 3, none⟩) hA v', blk_set hA8 (i := 3) v', ((h.mp.ext hal).grown hg (hlow M hM)).set (p := ⟨A, 3, none⟩) (Ne.symm hne) v', hA, hM, hne, h.alo, h.mlo, ?_⟩⟩
  exact ext_st ((h.e.trans hal).grown hg (h.e.trans hal).size (fun b hb => by have := (h.m.st.own.lt b hb).1; have := h.alo; omega)) (p := ⟨A, 3, none⟩) h.alo v'
end

theorem spotsX_at {w : World} {a : Option Addr} {n c : Nat} {l : List (Int × Int)} (h : Row w 2 a n c (l.flatMap spc)) : ∃ b off, (0 < l.length → a = some ⟨b, off, none⟩) ∧ ∀ (i : Nat) (hi : i < l.length), w.cell? ⟨b, off + i * 2, none⟩ = some (.int .i64 l[i].1) ∧ w.cell? ⟨b, off + i * 2 + 1, none⟩ = some (.int .i64 l[i].2) := by
  obtain ⟨b, off, _, h2, h3⟩ := h.lie
  have key : ∀ (l : List (Int × Int)) (i : Nat) (hi : i < l.length), (l.flatMap spc)[i * 2]? = some (.int .i64 l[i].1) ∧ (l.flatMap spc)[i * 2 + 1]? = some (.int .i64 l[i].2) := by
    intro l
    induction l with
    | nil => intro i hi; simp at hi
    | cons x r ih =>
      intro i hi
      cases i with
      | zero => simp [spc]
      | succ i =>
        have := ih i (by simpa using hi)
        simp only [List.flatMap_cons, spc]
        rw [show (i + 1) * 2 = i * 2 + 2 by omega, show i * 2 + 2 + 1 = (i * 2 + 1) + 2 by omega]
        simpa using this
  refine ⟨b, off, fun hl => h2 ?_, fun i hi => ⟨h3 _ _ (key l i hi).1, ?_⟩⟩
  · have := (key l 0 hl).1
    exact getElem?_pos this
  · have := h3 _ _ (key l i hi).2
    rwa [← Nat.add_assoc] at this

/-- What Explore answers. -/
def ExplR (m : Md) (P : List Tm) (t : Tm) (w : World) (e : Ending) (w' : World) : Prop :=
  ∃ (τ : Nat → Nat) (sp nx st : Value) (X : List Sp2) (L : List (List Int)), e = .returned (.tuple #[.agg #[sp, .int .i64 ((iX m P t).length : Int), nx, st, .int .i64 (cntA t.flat : Int)], .int .i64 0]) ∧
    GMem τ w.heap.size w' sp nx st X L (X.map (sX m P t)) ∧ XDone (bX m P t) (oX m t) (iX m P t) X L ∧ Ext w w'

theorem place_any (τ : Nat → Nat) (B A M : Nat) (w0 w : World) (sp nx st : Value) (ini many : Int) (S : List Sp2) (L : List (List Int)) (T : List Int) (s : Sp2) (h : ABox τ B A M w0 w sp nx st ini many S L T) (hl : S.length < 20000 ∨ s ∈ S) :
    Calls Tryd.prog 42 #[.pointer (some ⟨A, 0, none⟩), .agg #[.int .i64 s.1, .int .i64 s.2]] w (PlaceR τ B A M w0 w nx st ini many S L T s) := by
  by_cases hs : s ∈ S
  · exact place_old τ B A M w0 w sp nx st ini many S L T s h hs
  · exact place_new τ B A M w0 w sp nx st ini many S L T s h hs (hl.resolve_right hs)

theorem XInv.put {BF : Sp2 → List Sp2} {O : Sp2 → Prop} {I X : List Sp2} {nx : List (List Int)} {cur : List Int} {t : Nat} (h : XInv BF O I X nx cur t) {x : Sp2} (hx : X[nx.length]? = some x) {y : Sp2} (hy : (BF x)[t]? = some y) (ho : O y) {n : Nat} {S' : List Sp2} (hn : S'[n]? = some y)
    (hS : S' = X ∨ y ∉ X ∧ S' = X ++ [y] ∧ n = X.length) : XInv BF O I S' nx (cur ++ [(n : Int)]) (t + 1) ∧ S'[nx.length]? = some x ∧ S'.take nx.length = X.take nx.length := by
  rcases hS with rfl | ⟨h1, rfl, rfl⟩
  · exact ⟨h.old hx hy hn, hx, rfl⟩
  · have hl := (List.getElem?_eq_some_iff.1 hx).1
    exact ⟨h.grow hx hy h1 ho, by rw [List.getElem?_append_left hl]; exact hx, List.take_append_of_le_length h.le⟩

/-- A row that grows, behind place. -/
theorem OwnT.placed {τ τ' : Nat → Nat} {w w' : World} {B : Nat} {e : TypeId} {size n t : Nat} {v : Value} {xs : List Value} (h : OwnT τ t w B e size v n xs) (h0 : t ≠ 0) (h1 : t ≠ 1) (ht : ∀ b, b < w.heap.size → τ' b = τ b)
    (hk : ∀ (t : Nat) (P : World → Prop), t ≠ 0 → t ≠ 1 → Ent τ t w P → Ent τ' t w' P) : OwnT τ' t w' B e size v n xs :=
  ⟨(hk t _ h0 h1 h.ent).now, fun b hb => (ht b (h.own.lt b hb).2).trans (h.tag b hb)⟩

/-- A place for one more, as long as all spots lie below two bounds. -/
theorem room {BF : Sp2 → List Sp2} {I X : List Sp2} {nx : List (List Int)} {cur : List Int} {t : Nat} {C N : Nat} (h : XInv BF (fun x => 0 ≤ x.1 ∧ x.1 < (C : Int) ∧ 0 ≤ x.2 ∧ x.2 < (N : Int)) I X nx cur t) (hCN : C * N ≤ 20000) {y : Sp2} (hy : 0 ≤ y.1 ∧ y.1 < (C : Int) ∧ 0 ≤ y.2 ∧ y.2 < (N : Int)) : X.length < 20000 ∨ y ∈ X := by
  by_cases hm : y ∈ X
  · exact .inr hm
  · left
    have := pairs_bound C N (X := X ++ [y]) (by
      rw [List.nodup_append]
      refine ⟨h.nd, by simp, ?_⟩
      intro a ha b hb e
      simp at hb
      subst hb; subst e
      exact hm ha) (fun x hx => by
      rcases List.mem_append.1 hx with hx | hx
      · exact h.ok x hx
      · simp at hx; subst hx; exact hy)
    simp at this
    omega

end Go.Proofs.YtkkbefhnklpfaaaDoor
