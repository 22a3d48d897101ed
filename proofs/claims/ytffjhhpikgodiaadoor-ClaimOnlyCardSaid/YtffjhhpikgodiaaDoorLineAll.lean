/- Several texts in one: LineP; Follows; FollowA; ClaimsA; LineN; ClaimW. No condition. -/
import Derived.Test.YtffjhhpikgodiaaDoorWordQ
import Derived.Test.YtffjhhpikgodiaaDoorMeets
import Derived.Test.YtffjhhpikgodiaaDoorTruA
import Derived.Test.YtffjhhpikgodiaaDoorShut
import Derived.Deep.RegionHeld3
import Derived.Deep.Cut
import Derived.Test.YtffjhhpikgodiaaDoorHolds
import Derived.Test.YtffjhhpikgodiaaDoorBits
import Derived.Test.YtffjhhpikgodiaaDoorWordL
namespace Go.Proofs.YtffjhhpikgodiaaDoor

/-- Does an op that looks ahead keep its law, from one moment to the next? -/
def keepB (k : Int) (es : List Int) (now next : List Bool) (i : Nat) : Bool :=
  if k = 14 then now.getD i false == next.getD (i + 1) false
  else if k = 17 then now.getD i false == (now.getD (i + 1) false || next.getD i false)
  else if k = 18 then now.getD i false == (now.getD (i + 1) false && next.getD i false)
  else if k = 15 then now.getD i false == (now.getD (secAt es i) false || (now.getD (i + 1) false && next.getD i false))
  else now.getD i false == (now.getD (secAt es i) false && (now.getD (i + 1) false || next.getD i false))

/-- All of the first ones do. -/
def folB (l : List Op2) (es : List Int) (now next : List Bool) : Nat → Bool
  | 0 => true
  | i + 1 => folB l es now next i && (!aheadB (l.getD i (0, 0)).1 || keepB (l.getD i (0, 0)).1 es now next i)
theorem folB_iff (l : List Op2) (es : List Int) (now next : List Bool) : ∀ m, folB l es now next m = true ↔ ∀ p, p < m → aheadB (l.getD p (0, 0)).1 = true → keepB (l.getD p (0, 0)).1 es now next p = true
  | 0 => by simp [folB]
  | m + 1 => by
    rw [folB, Bool.and_eq_true, folB_iff l es now next m, Bool.or_eq_true, Bool.not_eq_true']
    constructor
    · rintro ⟨h1, h2⟩ p hp ha
      by_cases e : p = m
      · subst e
        rcases h2 with h2 | h2
        · rw [h2] at ha; cases ha
        · exact h2
      · exact h1 p (by omega) ha
    · intro h
      refine ⟨fun p hp => h p (by omega), ?_⟩
      cases ha : aheadB (l.getD m (0, 0)).1
      · exact .inl rfl
      · exact .inr (h m (by omega) ha)

section
variable {n back : Nat} {a b r : Nat → Bool}
theorem until_fair (hb : back < n) (hr : ∀ i, i < n → r i = (b i || (a i && r (nxt n back i)))) (hm : ∃ i, back ≤ i ∧ i < n ∧ (!r i || b i) = true) : ∀ i, i < n → (r i = true ↔ UntilP n back (fun j => a j = true) (fun j => b j = true) i) := by
  intro i hi
  constructor
  · intro h
    apply Classical.byContradiction
    intro hu
    have key : ∀ j, r (nxtN n back j i) = true ∧ ¬ UntilP n back (fun j => a j = true) (fun j => b j = true) (nxtN n back j i) := by
      intro j
      induction j with
      | zero => exact ⟨h, hu⟩
      | succ j ih =>
        obtain ⟨h1, h2⟩ := ih
        have e : nxtN n back (j + 1) i = nxt n back (nxtN n back j i) := by rw [nxtN_add]; rfl
        have hx := nxtN_lt hb j i hi
        rw [e]
        generalize nxtN n back j i = x at *
        rw [until_iff] at h2
        rw [hr x hx] at h1
        simp only [Bool.or_eq_true, Bool.and_eq_true] at h1
        rcases h1 with h1 | ⟨h1, h3⟩
        · exact absurd (.inl h1) h2
        · exact ⟨h3, fun h4 => h2 (.inr ⟨h1, h4⟩)⟩
    obtain ⟨i0, h0, h1, h2⟩ := hm
    obtain ⟨j, hj⟩ := nxtN_reach hi (k := i0) (by omega) h1 hb
    obtain ⟨k1, k2⟩ := key j
    rw [hj] at k1 k2
    rw [k1] at h2
    exact k2 ⟨0, (show b i0 = true by simpa using h2), fun m hm => by omega⟩
  · rintro ⟨j, h1, h2⟩
    induction j generalizing i with
    | zero => rw [hr i hi]; rw [show b i = true from h1]; rfl
    | succ j ih =>
      have h3 := ih (nxt n back i) (nxt_lt hb) h1 fun m hm => h2 (m + 1) (by omega)
      have h4 : a i = true := h2 0 (by omega)
      rw [hr i hi, h3, h4]; simp
theorem rel_fair (hb : back < n) (hr : ∀ i, i < n → r i = (b i && (a i || r (nxt n back i)))) (hm : ∃ i, back ≤ i ∧ i < n ∧ (r i || !b i) = true) : ∀ i, i < n → (r i = true ↔ RelP n back (fun j => a j = true) (fun j => b j = true) i) := by
  intro i hi
  have h := until_fair (a := fun j => !a j) (b := fun j => !b j) (r := fun j => !r j) hb (fun i hi => by
    show (!r i) = _
    rw [hr i hi]; simp [Bool.not_and, Bool.not_or]) (by
    obtain ⟨i, h1, h2, h3⟩ := hm
    exact ⟨i, h1, h2, by simpa using h3⟩) i hi
  rw [rel_not, ← not_congr (h.trans (until_congr (fun j => by simp) (fun j => by simp) i))]
  simp
end

/-- The truths of all terms along a word, with claims. -/
def tvW (W : Wd) (c : Nat → Nat) (t : Tm) (i : Nat) : List Bool := tvT (W.ls.getD i []) (c i) t 0

theorem getD_of {l : List Bool} {i : Nat} {b : Bool} (h : l[i]? = some b) : l.getD i false = b := by simp [List.getD, h]
theorem getD_op {l : List Op2} {i : Nat} {o : Op2} (h : l[i]? = some o) : l.getD i (0, 0) = o := by simp [List.getD, h]

section
variable {W : Wd} {t : Tm} (ht : t.ok) {props : Int} (hfit : ∀ o ∈ t.flat, FitOp props o) {c : Nat → Nat}
include ht hfit
/-- With the claims of what holds the truths are what holds. -/
theorem claims_sat (hc : ∀ i, i < W.n → ∀ p s, (subs t)[p]? = some s → aheadB s.kd = true → (c i).testBit (cntA (t.flat.take p)) = satB W s i) :
    ∀ m p, t.size ≤ p + m → ∀ s, (subs t)[p]? = some s → ∀ i, i < W.n → (tvW W c t i).getD p false = satB W s i := by
  intro m
  induction m with
  | zero =>
    intro p hp s hs
    have := (List.getElem?_eq_some_iff.1 hs).1
    rw [subs_len] at this
    omega
  | succ m ih =>
    intro p hp s hs i hi
    have hps : p < t.size := by have := (List.getElem?_eq_some_iff.1 hs).1; rwa [subs_len] at this
    obtain ⟨s', hS⟩ := subs_at t ht p hps
    obtain rfl : s = s' := by have := hS.sub; rw [hs] at this; exact Option.some.inj this
    have hf := hfit _ (List.mem_of_getElem? hS.op)
    have hV : TvAt (W.ls.getD i []) (c i) t.flat (t.ends 0) (tvW W c t i) p s.kd s.vl := tv_at _ _ t ht p _ _ hS.op
    cases hah : aheadB s.kd with
    | true => rw [getD_of (hV.ah hah), hc i hi p s hs hah]
    | false =>
      rcases tm_cases hS.ok hf with ⟨v, rfl, _, _⟩ | rfl | rfl | ⟨a, rfl⟩ | ⟨a, rfl⟩ | ⟨a, rfl⟩ | ⟨a, rfl⟩ | ⟨a, b, rfl⟩ | ⟨a, b, rfl⟩ | ⟨a, b, rfl⟩ | ⟨a, b, rfl⟩
      · rw [getD_of (hV.prop rfl), satB_prop]; rfl
      · rw [getD_of (hV.yes rfl), satB_yes]
      · rw [getD_of (hV.no rfl), satB_no]
      · rw [getD_of (hV.not rfl), satB_not, ih (p + 1) (by omega) a (hS.one _ _ _ rfl) i hi]
      · cases hah
      · cases hah
      · cases hah
      · obtain ⟨g1, -, g3, g4⟩ := hS.two _ _ _ _ rfl
        rw [getD_of (hV.and rfl), satB_and, ih (p + 1) (by omega) a g1 i hi, ih _ (by omega) b g4 i hi]
      · obtain ⟨g1, -, g3, g4⟩ := hS.two _ _ _ _ rfl
        rw [getD_of (hV.or rfl), satB_or, ih (p + 1) (by omega) a g1 i hi, ih _ (by omega) b g4 i hi]
      · cases hah
      · cases hah
end

section
variable {W : Wd} (hb : W.back < W.n) {t : Tm} (ht : t.ok) {props : Int} (hfit : ∀ o ∈ t.flat, FitOp props o) {c : Nat → Nat}
include hb ht hfit

/-- A line that keeps all laws, and in which nothing waits for ever, tells what holds. -/
theorem line_sat (hk : ∀ i, i < W.n → ∀ p, p < t.size → aheadB (t.flat.getD p (0, 0)).1 = true → keepB (t.flat.getD p (0, 0)).1 (t.ends 0) (tvW W c t i) (tvW W c t (nxt W.n W.back i)) p = true)
    (hm : ∀ p, p < t.size → aheadB (t.flat.getD p (0, 0)).1 = true → ∃ i, W.back ≤ i ∧ i < W.n ∧ metB (t.flat.getD p (0, 0)).1 (t.ends 0) (tvW W c t i) p = true) :
    ∀ m p, t.size ≤ p + m → ∀ s, (subs t)[p]? = some s → ∀ i, i < W.n → (tvW W c t i).getD p false = satB W s i := by
  intro m
  induction m with
  | zero =>
    intro p hp s hs
    have := (List.getElem?_eq_some_iff.1 hs).1
    rw [subs_len] at this
    omega
  | succ m ih =>
    intro p hp s hs i hi
    have hps : p < t.size := by have := (List.getElem?_eq_some_iff.1 hs).1; rwa [subs_len] at this
    obtain ⟨s', hS⟩ := subs_at t ht p hps
    obtain rfl : s = s' := by have := hS.sub; rw [hs] at this; exact Option.some.inj this
    have hf := hfit _ (List.mem_of_getElem? hS.op)
    have hop := getD_op hS.op
    have hV : ∀ i, TvAt (W.ls.getD i []) (c i) t.flat (t.ends 0) (tvW W c t i) p s.kd s.vl := fun i => tv_at _ _ t ht p _ _ hS.op
    have hk' := fun i hi => hk i hi p hps
    have hm' := hm p hps
    rw [hop] at hm'
    simp only [hop] at hk'
    rcases tm_cases hS.ok hf with ⟨v, rfl, _, _⟩ | rfl | rfl | ⟨a, rfl⟩ | ⟨a, rfl⟩ | ⟨a, rfl⟩ | ⟨a, rfl⟩ | ⟨a, b, rfl⟩ | ⟨a, b, rfl⟩ | ⟨a, b, rfl⟩ | ⟨a, b, rfl⟩
    · rw [getD_of ((hV i).prop rfl), satB_prop]; rfl
    · rw [getD_of ((hV i).yes rfl), satB_yes]
    · rw [getD_of ((hV i).no rfl), satB_no]
    · rw [getD_of ((hV i).not rfl), satB_not, ih (p + 1) (by omega) a (hS.one _ _ _ rfl) i hi]
    · have h := hk' i hi rfl
      have h1 := ih (p + 1) (by omega) a (hS.one _ _ _ rfl) _ (nxt_lt (i := i) hb)
      simp only [Tm.kd, keepB, if_true, beq_iff_eq] at h
      rw [h, h1, satB_next]
    · have h1 := ih (p + 1) (by omega) a (hS.one _ _ _ rfl)
      have := until_fair (r := fun i => (tvW W c t i).getD p false) (a := fun _ => true) (b := satB W a) hb (fun i hi => by
        have h := hk' i hi rfl
        simp only [Tm.kd, keepB, show ¬ (17 : Int) = 14 by decide, if_true, if_false, beq_iff_eq] at h
        rw [h1 i hi] at h
        simpa using h) (by
        obtain ⟨i, e1, e2, e3⟩ := hm' rfl
        refine ⟨i, e1, e2, ?_⟩
        simp only [Tm.kd, metB, if_true] at e3
        rw [h1 i e2] at e3
        exact e3) i hi
      exact Bool.eq_iff_iff.2 (this.trans (satB_fin W 0 a i).symm)
    · have h1 := ih (p + 1) (by omega) a (hS.one _ _ _ rfl)
      have := rel_fair (r := fun i => (tvW W c t i).getD p false) (a := fun _ => false) (b := satB W a) hb (fun i hi => by
        have h := hk' i hi rfl
        simp only [Tm.kd, keepB, show ¬ (18 : Int) = 14 by decide, show ¬ (18 : Int) = 17 by decide, if_true, if_false, beq_iff_eq] at h
        rw [h1 i hi] at h
        simpa using h) (by
        obtain ⟨i, e1, e2, e3⟩ := hm' rfl
        refine ⟨i, e1, e2, ?_⟩
        simp only [Tm.kd, metB, show ¬ (18 : Int) = 17 by decide, if_true, if_false] at e3
        rw [h1 i e2] at e3
        exact e3) i hi
      exact Bool.eq_iff_iff.2 (this.trans (satB_glo W 0 a i).symm)
    · obtain ⟨g1, -, g3, g4⟩ := hS.two _ _ _ _ rfl
      rw [getD_of ((hV i).and rfl), satB_and, ih (p + 1) (by omega) a g1 i hi, ih _ (by omega) b g4 i hi]
    · obtain ⟨g1, -, g3, g4⟩ := hS.two _ _ _ _ rfl
      rw [getD_of ((hV i).or rfl), satB_or, ih (p + 1) (by omega) a g1 i hi, ih _ (by omega) b g4 i hi]
    · obtain ⟨g1, -, g3, g4⟩ := hS.two _ _ _ _ rfl
      have h1 := ih (p + 1) (by omega) a g1
      have h2 := ih _ (by omega) b g4
      have := until_fair (r := fun i => (tvW W c t i).getD p false) (a := satB W a) (b := satB W b) hb (fun i hi => by
        have h := hk' i hi rfl
        simp only [Tm.kd, keepB, show ¬ (15 : Int) = 14 by decide, show ¬ (15 : Int) = 17 by decide, show ¬ (15 : Int) = 18 by decide, if_true, if_false, beq_iff_eq] at h
        rw [h1 i hi, h2 i hi] at h
        exact h) (by
        obtain ⟨i, e1, e2, e3⟩ := hm' rfl
        refine ⟨i, e1, e2, ?_⟩
        simp only [Tm.kd, metB, show ¬ (15 : Int) = 17 by decide, show ¬ (15 : Int) = 18 by decide, if_true, if_false] at e3
        rw [h2 i e2] at e3
        exact e3) i hi
      exact Bool.eq_iff_iff.2 (this.trans (satB_unt W 0 a b i).symm)
    · obtain ⟨g1, -, g3, g4⟩ := hS.two _ _ _ _ rfl
      have h1 := ih (p + 1) (by omega) a g1
      have h2 := ih _ (by omega) b g4
      have := rel_fair (r := fun i => (tvW W c t i).getD p false) (a := satB W a) (b := satB W b) hb (fun i hi => by
        have h := hk' i hi rfl
        simp only [Tm.kd, keepB, show ¬ (16 : Int) = 14 by decide, show ¬ (16 : Int) = 17 by decide, show ¬ (16 : Int) = 18 by decide, show ¬ (16 : Int) = 15 by decide, if_false, beq_iff_eq] at h
        rw [h1 i hi, h2 i hi] at h
        exact h) (by
        obtain ⟨i, e1, e2, e3⟩ := hm' rfl
        refine ⟨i, e1, e2, ?_⟩
        simp only [Tm.kd, metB, show ¬ (16 : Int) = 17 by decide, show ¬ (16 : Int) = 18 by decide, show ¬ (16 : Int) = 15 by decide, if_true, if_false] at e3
        rw [h2 i e2] at e3
        exact e3) i hi
      exact Bool.eq_iff_iff.2 (this.trans (satB_rel W 0 a b i).symm)

/-- And it is a line. -/
theorem sat_keeps (hs : ∀ p s, (subs t)[p]? = some s → ∀ i, i < W.n → (tvW W c t i).getD p false = satB W s i) (i : Nat) (hi : i < W.n) (p : Nat) (hp : p < t.size) (ha : aheadB (t.flat.getD p (0, 0)).1 = true) :
    keepB (t.flat.getD p (0, 0)).1 (t.ends 0) (tvW W c t i) (tvW W c t (nxt W.n W.back i)) p = true := by
  obtain ⟨s, hS⟩ := subs_at t ht p hp
  have hf := hfit _ (List.mem_of_getElem? hS.op)
  have hx := nxt_lt (i := i) hb
  rw [getD_op hS.op] at ha ⊢
  have h0 := hs p s hS.sub
  rcases tm_cases hS.ok hf with ⟨v, rfl, _, _⟩ | rfl | rfl | ⟨a, rfl⟩ | ⟨a, rfl⟩ | ⟨a, rfl⟩ | ⟨a, rfl⟩ | ⟨a, b, rfl⟩ | ⟨a, b, rfl⟩ | ⟨a, b, rfl⟩ | ⟨a, b, rfl⟩
  · cases ha
  · cases ha
  · cases ha
  · cases ha
  · have h1 := hs _ _ (hS.one _ _ _ rfl)
    simp only [Tm.kd, keepB, if_true, beq_iff_eq]
    rw [h0 i hi, h1 _ hx, satB_next]
  · have h1 := hs _ _ (hS.one _ _ _ rfl)
    simp only [Tm.kd, keepB, show ¬ (17 : Int) = 14 by decide, if_true, if_false, beq_iff_eq]
    rw [h0 i hi, h1 _ hi, h0 _ hx, now_fin]
  · have h1 := hs _ _ (hS.one _ _ _ rfl)
    simp only [Tm.kd, keepB, show ¬ (18 : Int) = 14 by decide, show ¬ (18 : Int) = 17 by decide, if_true, if_false, beq_iff_eq]
    rw [h0 i hi, h1 _ hi, h0 _ hx, now_glo]
  · cases ha
  · cases ha
  · obtain ⟨g1, -, g3, g4⟩ := hS.two _ _ _ _ rfl
    simp only [Tm.kd, keepB, show ¬ (15 : Int) = 14 by decide, show ¬ (15 : Int) = 17 by decide, show ¬ (15 : Int) = 18 by decide, if_true, if_false, beq_iff_eq]
    rw [h0 i hi, hs _ _ g1 _ hi, hs _ _ g4 _ hi, h0 _ hx, now_unt]
  · obtain ⟨g1, -, g3, g4⟩ := hS.two _ _ _ _ rfl
    simp only [Tm.kd, keepB, show ¬ (16 : Int) = 14 by decide, show ¬ (16 : Int) = 17 by decide, show ¬ (16 : Int) = 18 by decide, show ¬ (16 : Int) = 15 by decide, if_false, beq_iff_eq]
    rw [h0 i hi, hs _ _ g1 _ hi, hs _ _ g4 _ hi, h0 _ hx, now_rel]

theorem sat_meets (hs : ∀ p s, (subs t)[p]? = some s → ∀ i, i < W.n → (tvW W c t i).getD p false = satB W s i) (p : Nat) (hp : p < t.size) (ha : aheadB (t.flat.getD p (0, 0)).1 = true) :
    ∃ i, W.back ≤ i ∧ i < W.n ∧ metB (t.flat.getD p (0, 0)).1 (t.ends 0) (tvW W c t i) p = true := by
  obtain ⟨s, hS⟩ := subs_at t ht p hp
  have hf := hfit _ (List.mem_of_getElem? hS.op)
  rw [getD_op hS.op] at ha ⊢
  have h0 := hs p s hS.sub
  have hin : ∀ j, W.back ≤ nxtN W.n W.back j W.back ∧ nxtN W.n W.back j W.back < W.n := fun j => ⟨by have := nxtN_min (n := W.n) (back := W.back) j W.back; omega, nxtN_lt hb j _ hb⟩
  rcases tm_cases hS.ok hf with ⟨v, rfl, _, _⟩ | rfl | rfl | ⟨a, rfl⟩ | ⟨a, rfl⟩ | ⟨a, rfl⟩ | ⟨a, rfl⟩ | ⟨a, b, rfl⟩ | ⟨a, b, rfl⟩ | ⟨a, b, rfl⟩ | ⟨a, b, rfl⟩
  · cases ha
  · cases ha
  · cases ha
  · cases ha
  · exact ⟨W.back, Nat.le_refl _, hb, rfl⟩
  · have h1 := hs _ _ (hS.one _ _ _ rfl)
    simp only [Tm.kd, metB, if_true]
    cases hx : satB W (.n1 17 0 a) W.back
    · exact ⟨W.back, Nat.le_refl _, hb, by rw [h0 _ hb, hx]; rfl⟩
    · rw [satB_iff, sat_fin] at hx
      obtain ⟨j, hj⟩ := hx
      exact ⟨_, (hin j).1, (hin j).2, by rw [h1 _ (hin j).2, satB_iff.2 hj]; simp⟩
  · have h1 := hs _ _ (hS.one _ _ _ rfl)
    simp only [Tm.kd, metB, show ¬ (18 : Int) = 17 by decide, if_true, if_false]
    cases hx : satB W (.n1 18 0 a) W.back
    · have hx' : ¬ Sat W (.n1 18 0 a) W.back := fun h => by rw [satB_iff.2 h] at hx; cases hx
      rw [sat_glo] at hx'
      obtain ⟨j, hj⟩ := Classical.not_forall.1 hx'
      exact ⟨_, (hin j).1, (hin j).2, by
        have e : satB W a (nxtN W.n W.back j W.back) = false := by
          cases e : satB W a (nxtN W.n W.back j W.back)
          · rfl
          · exact absurd (satB_iff.1 e) hj
        rw [h1 _ (hin j).2, e]; simp⟩
    · exact ⟨W.back, Nat.le_refl _, hb, by rw [h0 _ hb, hx]; rfl⟩
  · cases ha
  · cases ha
  · obtain ⟨g1, -, g3, g4⟩ := hS.two _ _ _ _ rfl
    simp only [Tm.kd, metB, show ¬ (15 : Int) = 17 by decide, show ¬ (15 : Int) = 18 by decide, if_true, if_false]
    cases hx : satB W (.n2 15 0 a b) W.back
    · exact ⟨W.back, Nat.le_refl _, hb, by rw [h0 _ hb, hx]; rfl⟩
    · rw [satB_iff, sat_unt] at hx
      obtain ⟨j, hj, _⟩ := hx
      exact ⟨_, (hin j).1, (hin j).2, by rw [hs _ _ g4 _ (hin j).2, satB_iff.2 hj]; simp⟩
  · obtain ⟨g1, -, g3, g4⟩ := hS.two _ _ _ _ rfl
    simp only [Tm.kd, metB, show ¬ (16 : Int) = 17 by decide, show ¬ (16 : Int) = 18 by decide, show ¬ (16 : Int) = 15 by decide, if_true, if_false]
    cases hx : satB W (.n2 16 0 a b) W.back
    · have hx' : ¬ Sat W (.n2 16 0 a b) W.back := fun h => by rw [satB_iff.2 h] at hx; cases hx
      rw [sat_rel, rel_not] at hx'
      obtain ⟨j, hj, _⟩ := Classical.not_not.1 hx'
      exact ⟨_, (hin j).1, (hin j).2, by
        have e : satB W b (nxtN W.n W.back j W.back) = false := by
          cases e : satB W b (nxtN W.n W.back j W.back)
          · rfl
          · exact absurd (satB_iff.1 e) hj
        rw [hs _ _ g4 _ (hin j).2, e]; simp⟩
    · exact ⟨W.back, Nat.le_refl _, hb, by rw [h0 _ hb, hx]; rfl⟩
end

end Go.Proofs.YtffjhhpikgodiaaDoor

namespace Go.Proofs.YtffjhhpikgodiaaDoor
open Go.RowKit

/-- keeps, with the second part's place told. -/
def keepV (k : Int) (now next : List Bool) (p s : Nat) : Bool :=
  if k = 14 then now.getD p false == next.getD (p + 1) false
  else if k = 17 then now.getD p false == (now.getD (p + 1) false || next.getD p false)
  else if k = 18 then now.getD p false == (now.getD (p + 1) false && next.getD p false)
  else if k = 15 then now.getD p false == (now.getD s false || (now.getD (p + 1) false && next.getD p false))
  else now.getD p false == (now.getD s false && (now.getD (p + 1) false || next.getD p false))
theorem keepV_eq (k : Int) (es : List Int) (now next : List Bool) (p : Nat) : keepB k es now next p = keepV k now next p (secAt es p) := rfl

set_option maxRecDepth 100000 in
set_option maxHeartbeats 2000000 in
theorem keeps_any (w : World) (a b : Option Addr) (n ca cb : Nat) (A B : List Bool) (k : Int) (p s : Nat) (hA : Row w 1 a n ca (A.map .bool)) (hB : Row w 1 b n cb (B.map .bool)) (hp : p + 1 < n) (hs : k = 15 ∨ k = 16 → s < n) (hk : 14 ≤ k) (hk2 : k ≤ 18) (hn : n ≤ 60) :
    Calls Tryd.prog 37 #[.agg #[.slice a n ca, .slice b n cb], .int .i64 k, .int .i64 (p : Int), .int .i64 (s : Int)] w fun e w' => e = .returned (.bool (keepV k A B p s)) ∧ Ext w w' := by
  have hAl : A.length = n := by have := hA.len; simpa using this
  have hBl : B.length = n := by have := hB.len; simpa using this
  obtain ⟨bA, oA, hA1, hA2⟩ := row_ints hA
  obtain ⟨bB, oB, hB1, hB2⟩ := row_ints hB
  obtain rfl := hA1 (by omega)
  obtain rfl := hB1 (by omega)
  have hx := ext_al (Ext.refl w) (Obj.cells #[.slice (some ⟨bA, oA, none⟩) n ca, .slice (some ⟨bB, oB, none⟩) n cb] 77)
  have hbk := blk_new w (Obj.cells #[.slice (some ⟨bA, oA, none⟩) n ca, .slice (some ⟨bB, oB, none⟩) n cb] 77)
  have p0 := blk_cell hbk (i := 0) (v := .slice (some ⟨bA, oA, none⟩) n ca) rfl
  have p1 := blk_cell hbk (i := 1) (v := .slice (some ⟨bB, oB, none⟩) n cb) rfl
  have a0 := cell_later hx (hA2 p _ (getD_some (by omega)))
  have a1 := cell_later hx (hA2 (p + 1) _ (getD_some (by omega)))
  have b0 := cell_later hx (hB2 p _ (getD_some (by omega)))
  have b1 := cell_later hx (hB2 (p + 1) _ (getD_some (by omega)))
  have HA2 := Lib.hid fun (h : s < n) => cell_later hx (hA2 s _ (getD_some (by omega)))
  have HX := Lib.hid hx
  have hpI : (p : Int) < (n : Int) := by omega
  have hp0 : (0 : Int) ≤ (p : Int) := by omega
  have hw0 : IntKind.i64.wrap ((p : Int) + 1) = (p : Int) + 1 := IntWalk.i64_in _ (by omega)
  have hp1I : (p : Int) + 1 < (n : Int) := by omega
  have hp10 : (0 : Int) ≤ (p : Int) + 1 := by omega
  have hto : ((p : Int) + 1).toNat = p + 1 := by omega
  have hsI : k = 15 ∨ k = 16 → (s : Int) < (n : Int) := fun h => by have := hs h; omega
  have HSI := Lib.hid hsI
  have HS := Lib.hid hs
  have hs0 : (0 : Int) ≤ (s : Int) := by omega
  unfold keepV
  generalize A.getD p false = me at *
  generalize A.getD (p + 1) false = fa at *
  generalize B.getD p false = la at *
  generalize B.getD (p + 1) false = fb at *
  generalize A.getD s false = sa at *
  have hkk : k = 14 ∨ k = 15 ∨ k = 16 ∨ k = 17 ∨ k = 18 := by omega
  clear hA hB hA1 hA2 hB1 hB2 hx hbk hsI hs hk hk2 hAl hBl
  rcases hkk with rfl | rfl | rfl | rfl | rfl
  · clear HA2
    go_enter Tryd.func37, Tryd.ntmps37
    go_wp2_with fail
    go_quiet (fail)
    go_wp2
    go_ret
    exact ⟨rfl, below_drewN HX.out _⟩
  · have sI := HSI.out (.inl rfl)
    have a2 := HA2.out (HS.out (.inl rfl))
    clear HSI HS HA2
    cases sa
    all_goals cases fa
    all_goals
      go_enter Tryd.func37, Tryd.ntmps37
      go_wp2_with fail
      go_quiet (fail)
      go_wp2
      go_ret
      exact ⟨by cases me <;> cases la <;> rfl, below_drewN HX.out _⟩
  · have sI := HSI.out (.inr rfl)
    have a2 := HA2.out (HS.out (.inr rfl))
    clear HSI HS HA2
    cases sa
    all_goals cases fa
    all_goals
      go_enter Tryd.func37, Tryd.ntmps37
      go_wp2_with fail
      go_quiet (fail)
      go_wp2
      go_ret
      exact ⟨by cases me <;> cases la <;> rfl, below_drewN HX.out _⟩
  · clear HA2
    cases fa
    all_goals
      go_enter Tryd.func37, Tryd.ntmps37
      go_wp2_with fail
      go_quiet (fail)
      go_wp2
      go_ret
      exact ⟨by cases me <;> cases la <;> rfl, below_drewN HX.out _⟩
  · clear HA2
    cases fa
    all_goals
      go_enter Tryd.func37, Tryd.ntmps37
      go_wp2_with fail
      go_quiet (fail)
      go_wp2
      go_ret
      exact ⟨by cases me <;> cases la <;> rfl, below_drewN HX.out _⟩

theorem folB_false {l : List Op2} {es : List Int} {now next : List Bool} {i : Nat} (h : folB l es now next i = false) : ∀ m, i ≤ m → folB l es now next m = false
  | 0, hm => by obtain rfl : i = 0 := by omega
                exact h
  | m + 1, hm => by
    by_cases e : i = m + 1
    · subst e; exact h
    · rw [folB, folB_false h m (by omega)]; rfl

end Go.Proofs.YtffjhhpikgodiaaDoor

namespace Go.Proofs.YtffjhhpikgodiaaDoor
open Go.RowKit

set_option maxRecDepth 100000 in
set_option maxHeartbeats 8000000 in
theorem follows_any (v : Value) (l : List Op2) (t : Tm) (v1 v2 : Value) (L1 L2 : List Bool) (c1 c2 : Nat) (w : World) (h : Ops w v l) (ht : Tab w) (hf : IsF l (L1.length : Int) t) (hL1 : Bools w v1 L1) (hL2 : Bools w v2 L2) (hlen : L2.length = L1.length) (hc1 : c1 < 2 ^ cntA l) (hc2 : c2 < 2 ^ cntA l) :
    Calls Tryd.prog 28 #[v, v1, .int .i64 (c1 : Int), v2, .int .i64 (c2 : Int)] w fun e w' => e = .returned (.tuple #[.bool (folB l (t.ends 0) (tvT L1 c1 t 0) (tvT L2 c2 t 0) l.length), .int .i64 0]) ∧ Ext w w' := by
  have hen := ends_term t hf.ok hf.small
  rw [hf.flat] at hen
  have HTR := Lib.hid (truths_any v l t v1 L1 c1 w h ht hf hL1 hc1)
  have HTS := Lib.hid fun wx (hx : Ext w wx) => truths_any v l t v2 L2 c2 wx (h.ext hx) (ht.ext hx) (by rw [hlen]; exact hf) (hL2.ext hx) hc2
  have HEN := Lib.hid fun wx (hx : Ext w wx) => by have H := ends_any v l wx (h.ext hx) (ht.ext hx); rw [hen] at H; exact H
  have hl60 : l.length ≤ 60 := by rw [← hf.flat, Tm.flat_len]; exact hf.small
  have hpos : 0 < l.length := by rw [← hf.flat, Tm.flat_len]; exact t.size_pos
  have htl : ∀ L c, (tvT L c t 0).length = l.length := fun L c => by rw [tvT_len, ← Tm.flat_len, hf.flat]
  have hel : (t.ends 0).length = l.length := by rw [Tm.ends_len, ← Tm.flat_len, hf.flat]
  have HTV := Lib.hid fun i k v (hi : l[i]? = some (k, v)) => by have := tv_at L1 c1 t hf.ok i k v (by rw [hf.flat]; exact hi); rw [hf.flat] at this; exact this
  have HSUB := Lib.hid fun i (hi : i < l.length) => by have h := subs_at t hf.ok i (by rw [← Tm.flat_len, hf.flat]; exact hi); rw [hf.flat] at h; exact h
  obtain ⟨a, cap, rfl, hr⟩ := h
  obtain ⟨al1, cl1, rfl, hrl1⟩ := hL1
  obtain ⟨al2, cl2, rfl, hrl2⟩ := hL2
  have HR := Lib.hid hr
  have HF := Lib.hid hf
  have htlA := htl L1 c1
  have htlB := htl L2 c2
  have hll : ((L1.length : Int) != (L2.length : Int)) = false := by rw [hlen]; simp
  have HEB := Lib.hid fun i (hi : i + 1 < l.length) => show (t.ends 0)[i + 1]? = some (secAt (t.ends 0) i : Int) ∧ secAt (t.ends 0) i ≤ 60 from by
    have hi2 : i + 1 < (t.ends 0).length := by rw [hel]; exact hi
    have h1 := List.getElem?_eq_getElem hi2
    have h2 := (ends_nest t 0).1 (i + 1) hi2
    have h3 : t.size ≤ 60 := hf.small
    have e : secAt (t.ends 0) i = ((t.ends 0)[i + 1]).toNat := by unfold secAt; rw [List.getD, h1]; rfl
    rw [h1, e]
    exact ⟨by congr 1; omega, by omega⟩
  generalize t.ends 0 = es at *
  generalize tvT L1 c1 t 0 = A at *
  generalize tvT L2 c2 t 0 = B at *
  have HTA := Lib.hid htlA
  have HTB := Lib.hid htlB
  have HEL := Lib.hid hel
  clear hen hf hr hrl1 hrl2 ht htl htlA htlB hel hc1 hc2 hlen
  go_enter Tryd.func28, Tryd.ntmps28
  go_wp2_with fail
  refine HTR.out.mono ?_
  rintro e w1 ⟨DA, rfl, hoA, hE1⟩
  have HOA := Lib.hid hoA
  have HE1 := Lib.hid hE1
  clear hoA hE1 HTR
  go_wp2_with fail
  refine (HTS.out _ HE1.out).mono ?_
  rintro e w2 ⟨DB, rfl, hoB, hE2⟩
  have HOB := Lib.hid hoB
  have HOA2 := Lib.hid (own_ext HOA.out hE2)
  have HE2 := Lib.hid (HE1.out.trans hE2)
  clear hoB hE2 HTS HOA HE1
  go_wp2_with fail
  refine (HEN.out _ HE2.out).mono ?_
  rintro e w3 ⟨hE3, v3, rfl, hown3⟩
  obtain ⟨ae, ce, rfl, hre⟩ := hown3.row
  have HRE := Lib.hid hre
  have HE3 := Lib.hid (HE2.out.trans hE3)
  have HRA := Lib.hid (show Row w3 1 (some ⟨DA, 0, none⟩) l.length l.length (A.map .bool) from by
    obtain ⟨_, _, e, h⟩ := (own_ext HOA2.out hE3).row
    simp only [Value.slice.injEq] at e
    obtain ⟨rfl, _, rfl⟩ := e
    exact h)
  have HRB := Lib.hid (show Row w3 1 (some ⟨DB, 0, none⟩) l.length l.length (B.map .bool) from by
    obtain ⟨_, _, e, h⟩ := (own_ext HOB.out hE3).row
    simp only [Value.slice.injEq] at e
    obtain ⟨rfl, _, rfl⟩ := e
    exact h)
  clear hown3 hre hE3 HEN HE2 HOA2 HOB
  go_wp2_with fail
  go_loopg [51] l.length (fun m x wr => ∃ i : Nat, m + i = l.length ∧ x = .int .i64 (i : Int) ∧ folB l es A B i = true ∧ Ext w3 wr)
  case atStart => exact ⟨0, by omega, by go_num, rfl, Ext.refl _⟩
  case round =>
    obtain ⟨i, hmi, rfl, hfo, hE⟩ := hrel
    have HMI := Lib.hid hmi
    have HFO := Lib.hid hfo
    have HE := Lib.hid hE
    by_cases hi : i < l.length
    · obtain ⟨b, off, hb, hcc⟩ := (HR.out.ext (HE3.out.trans hE)).ops
      obtain rfl := hb hpos
      obtain ⟨k1, k2⟩ := hcc i hi
      have hg : l.getD i (0, 0) = l[i] := by simp [List.getD, List.getElem?_eq_getElem hi]
      have hfs : folB l es A B (i + 1) = (folB l es A B i && (!aheadB l[i].1 || keepB l[i].1 es A B i)) := by rw [folB, hg]
      rw [hfo] at hfs
      have htva := HTV.out i l[i].1 l[i].2 (List.getElem?_eq_getElem hi)
      obtain ⟨s, hS⟩ := HSUB.out i hi
      have hkd : l[i] = (s.kd, s.vl) := by have := hS.op; rw [List.getElem?_eq_getElem hi] at this; exact Option.some.inj this
      obtain ⟨hf1, hf2, -, -⟩ := HF.out.fit l[i] (by simp)
      have HFS := Lib.hid hfs
      have HTW := Lib.hid htva
      have hiI : (i : Int) < (l.length : Int) := by omega
      have hi0 : (0 : Int) ≤ (i : Int) := by omega
      generalize l[i] = o at *
      obtain ⟨k, u⟩ := o
      simp only at k1 k2 hf1 hf2 HFS HTW
      have hx := ext_al hE (Obj.cells #[.int .i64 k, .int .i64 u] 51)
      have hbk := blk_new wr (Obj.cells #[.int .i64 k, .int .i64 u] 51)
      have HX := Lib.hid hx
      have HBK := Lib.hid hbk
      clear hcc hb hfs htva hE hx hbk hmi hfo hg hS hkd
      cases hah : aheadB k
      · have hfs := HFS.out
        rw [hah] at hfs
        have HF1 := Lib.hid (show folB l es A B (i + 1) = true by simpa using hfs)
        have HAH := Lib.hid fun wx => by have h := ah_fn k wx; rw [hah] at h; exact h
        clear hfs hah
        go_upto_region 13 with fail
        have o0 := blk_cell HBK.out (i := 0) rfl
        generalize wr.alloc (Obj.cells #[.int .i64 k, .int .i64 u] 51) = wq at *
        generalize wr.heap.size = O at *
        refine wp_region_quiet_lit (by kernel_rfl) (by kernel_rfl) (Shut.out ?_)
        repeat (refine hq_step (fun K hK => ?_); go_simp; first | (refine hK _ ?_; clear hK K) | (apply Exists.intro; refine ⟨fun _ => ?_, hK _ ?_⟩; (first | (go_at_call 31; exact Calls.quiet_of_same (still_of (HAH.out _)))); clear hK K))
        refine hq_nil ?_
        rintro _ ⟨nq, rfl⟩
        go_wp2_with fail
        go_roundg (gk - 1)
        case measure => have := HMI.out; omega
        case rel => exact ⟨i + 1, by have := HMI.out; omega, by go_num, HF1.out, below_drewN HX.out _⟩
      · have HAH := Lib.hid fun wx => by have h := ah_fn k wx; rw [hah] at h; exact h
        have hfs := HFS.out
        rw [hah] at hfs
        have hk14 : 14 ≤ k := by have := hah; unfold aheadB at this; simp only [decide_eq_true_eq] at this; exact this.1
        have hone := HTW.out.one (by
          rcases (show k = 14 ∨ k = 15 ∨ k = 16 ∨ k = 17 ∨ k = 18 by omega) with rfl | rfl | rfl | rfl | rfl <;> decide)
        obtain ⟨he1, he2⟩ := HEB.out i hone
        have htwo : k = 15 ∨ k = 16 → secAt es i < l.length := fun h => (HTW.out.two (by rcases h with rfl | rfl <;> rfl)).2.2
        obtain ⟨bb, hbb⟩ : ∃ bb, keepB k es A B i = bb := ⟨_, rfl⟩
        have hkv := hbb
        rw [keepV_eq] at hkv
        generalize secAt es i = s at *
        have HKE := Lib.hid fun wx (hw : Ext w3 wx) => by have h := keeps_any wx (some ⟨DA, 0, none⟩) (some ⟨DB, 0, none⟩) l.length l.length l.length A B k i s (HRA.out.ext hw) (HRB.out.ext hw) hone htwo hk14 hf2 hl60; rw [hkv] at h; exact h
        obtain ⟨be, oe, hbe, hce⟩ := row_ints (HRE.out.ext HX.out)
        obtain rfl := hbe (by rw [HEL.out]; omega)
        have ce1 := hce _ _ he1
        have o0 := blk_cell HBK.out (i := 0) (v := .int .i64 k) rfl
        have HFB := Lib.hid (show folB l es A B (i + 1) = bb by rw [hfs, hbb]; rfl)
        have honeE : i + 1 < es.length := by rw [HEL.out]; exact hone
        have hw0 : IntKind.i64.wrap ((i : Int) + 1) = (i : Int) + 1 := IntWalk.i64_in _ (by omega)
        have hi1I : (i : Int) + 1 < (es.length : Int) := by omega
        have hi10 : (0 : Int) ≤ (i : Int) + 1 := by omega
        have hto : ((i : Int) + 1).toNat = i + 1 := by omega
        clear hah he1 he2 htwo hbb hkv hbe hce hfs hone honeE hk14 HTW HFS
        go_upto_region 13 with fail
        have EW := HX.out
        generalize wr.alloc (Obj.cells #[.int .i64 k, .int .i64 u] 51) = wq at *
        generalize wr.heap.size = O at *
        have cur := And.intro o0 ce1
        go_region_held3 (fun w' => w'.cell? ⟨O, 0, none⟩ = some (.int .i64 k) ∧ w'.cell? ⟨be, oe + (i + 1), none⟩ = some (.int .i64 (s : Int)))
          (first | exact cur | exact ⟨cell_later (Below.drew (Ext.refl _)) cur.1, cell_later (Below.drew (Ext.refl _)) cur.2⟩ | go_keep)
          (first
            | (go_at_call 31
               refine (HAH.out _).mono ?_
               rintro e wn ⟨rfl, rfl⟩)
            | (go_at_call 37
               refine (HKE.out _ (by first | exact EW | exact Below.drew EW)).mono ?_
               rintro e wn ⟨rfl, hE⟩
               replace cur := And.intro (cell_later hE (cell_later (Below.drew (Ext.refl _)) cur.1)) (cell_later hE (cell_later (Below.drew (Ext.refl _)) cur.2))
               replace EW : Ext w3 wn := Ext.trans (Below.drew EW) hE))
        all_goals
          have HEW := Lib.hid EW
          cases bb
          · go_wp2
            go_ret2
            exact ⟨by rw [folB_false HFB.out l.length (by omega)]; rfl, (HE3.out.trans HEW.out)⟩
          · go_wp2_with fail
            go_roundg (gk - 1)
            case measure => have := HMI.out; omega
            case rel => exact ⟨i + 1, by have := HMI.out; omega, by go_num, HFB.out, HEW.out⟩
    · obtain rfl : i = l.length := by omega
      have hiI : ¬ (l.length : Int) < (l.length : Int) := by omega
      have HEW := Lib.hid (HE3.out.trans hE)
      clear hmi hE hfo
      go_wp2
      go_ret2
      exact ⟨by rw [HFO.out]; rfl, HEW.out⟩

end Go.Proofs.YtffjhhpikgodiaaDoor

namespace Go.Proofs.YtffjhhpikgodiaaDoor
open Go.RowKit

def rowI (n : Nat) (g : Nat → Nat) : List Value := (List.range n).map fun i => .int .i64 ((g i : Nat) : Int)
def updI (g : Nat → Nat) (i v : Nat) : Nat → Nat := fun x => if x = i then v else g x
theorem rowI_get {n : Nat} {g : Nat → Nat} {i : Nat} (h : i < n) : (rowI n g)[i]? = some (.int .i64 (g i : Int)) := by simp [rowI, h]
theorem rowI_len (n : Nat) (g : Nat → Nat) : (rowI n g).length = n := by simp [rowI]
theorem rowI_set {n : Nat} {g : Nat → Nat} {i : Nat} (v : Nat) : (rowI n g).set i (.int .i64 (v : Int)) = rowI n (updI g i v) := by
  apply List.ext_getElem?
  intro j
  rw [List.getElem?_set, rowI_len]
  by_cases hj : j < n
  · rw [rowI_get (g := updI g i v) hj]
    by_cases e : i = j
    · subst e
      rw [if_pos rfl, if_pos hj]
      show some (Value.int .i64 (v : Int)) = some (.int .i64 ((if i = i then v else g i : Nat) : Int))
      rw [if_pos rfl]
    · rw [if_neg e, rowI_get hj]
      show some (Value.int .i64 (g j : Int)) = some (.int .i64 ((if j = i then v else g j : Nat) : Int))
      rw [if_neg (fun h => e h.symm)]
  · rw [List.getElem?_eq_none (by rw [rowI_len]; omega), List.getElem?_eq_none (by rw [rowI_len]; omega)]
    split
    · split
      · omega
      · rfl
    · rfl
theorem rowI_cell {w : World} {base R n : Nat} {g : Nat → Nat} {i : Nat} (h : w.ownsRow base 3 1 (.slice (some ⟨R, 0, none⟩) n n) n (rowI n g)) (hi : i < n) : w.cell? ⟨R, i, none⟩ = some (.int .i64 (g i : Int)) := by
  have hl : i < (rowI n g).length := by rw [rowI_len]; exact hi
  refine (own_cellAt h (i := i) hl).trans ?_
  have := rowI_get (g := g) hi
  rw [List.getElem?_eq_getElem hl] at this
  exact this
theorem updI_val (V G : Nat → Nat) (i : Nat) : updI (fun j => if j < i then V j else G j) i (V i) = fun j => if j < i + 1 then V j else G j := by
  funext j
  unfold updI
  by_cases e : j = i
  · subst e; simp
  · simp only [if_neg e]
    by_cases h : j < i
    · rw [if_pos h, if_pos (by omega)]
    · rw [if_neg h, if_neg (by omega)]
theorem keepI_val {V G : Nat → Nat} {i : Nat} (h : V i = G i) : (fun j => if j < i then V j else G j) = fun j => if j < i + 1 then V j else G j := by
  rw [← updI_val V G i, h]
  funext j
  unfold updI
  by_cases e : j = i
  · subst e; simp
  · rw [if_neg e]

/-- What holds of the ops that look ahead, as bits. -/
def clU (f : Nat → Nat → Bool) : Nat → Nat → Nat
  | 0, _ => 0
  | b + 1, i => if f b i then clU f b i ||| 2 ^ b else clU f b i
theorem clU_lt (f : Nat → Nat → Bool) (i : Nat) : ∀ b, clU f b i < 2 ^ b
  | 0 => by simp [clU]
  | b + 1 => by
    have ih := clU_lt f i b
    unfold clU
    split
    · exact Nat.or_lt_two_pow (Nat.lt_of_lt_of_le ih (Nat.pow_le_pow_right (by omega) (by omega))) (Nat.pow_lt_pow_right (by omega) (by omega))
    · exact Nat.lt_of_lt_of_le ih (Nat.pow_le_pow_right (by omega) (by omega))
theorem clU_bit (f : Nat → Nat → Bool) (i j : Nat) : ∀ b, (clU f b i).testBit j = (decide (j < b) && f j i)
  | 0 => by simp [clU]
  | b + 1 => by
    have ih := clU_bit f i j b
    unfold clU
    by_cases e : j = b
    · subst e
      cases hf : f j i
      · simp [ih]
      · simp [Nat.testBit_or, ih, Nat.testBit_two_pow_self]
    · have e2 : decide (j < b + 1) = decide (j < b) := by congr 1; simp; omega
      split
      · rw [Nat.testBit_or, ih, Nat.testBit_two_pow_of_ne (Ne.symm e), e2]; simp
      · rw [ih, e2]
noncomputable def ahB (W : Wd) (t : Tm) (b i : Nat) : Bool := match (subs t)[(plUp t.flat t.flat.length).getD b 0]? with
  | some s => satB W s i
  | none => false

set_option maxRecDepth 100000 in
set_option maxHeartbeats 4000000 in
theorem claims_any (v sv lv : Value) (t : Tm) (Sm Lp : List (List Bool)) (props : Nat) (w : World) (h : IsT w v t) (ht : Tab w) (hf : IsF t.flat (props : Int) t) (hw : IsW w sv lv Sm Lp) (ho : WdOk Sm Lp props) (n : Nat) (hn : (Sm ++ Lp).length = n) (N : Nat) (hN : cntA t.flat = N) :
    Calls Tryd.prog 27 #[v, .agg #[sv, lv], .int .i64 (props : Int)] w fun e w' => ∃ D, e = .returned (.tuple #[.slice (some ⟨D, 0, none⟩) n n, .int .i64 0]) ∧ w'.ownsRow w.heap.size 3 1 (.slice (some ⟨D, 0, none⟩) n n) n (rowI n (clU (ahB ⟨Sm ++ Lp, Sm.length⟩ t) N)) ∧ Ext w w' := by
  have hx := ext_al (Ext.refl w) (Obj.cells #[sv, lv] 43)
  have HOP := Lib.hid (open_any v sv lv t.flat t Sm Lp props _ (ops_ext h hx) (ht.ext hx) hf (hw.st.ext hx) (hw.lp.ext hx) ho.s12 ho.l1 ho.l12 ho.let')
  have HPL := Lib.hid fun wx (hw : Ext w wx) => places_any v t.flat props t wx (ops_ext h hw) (ht.ext hw) hf
  have HX := Lib.hid hx
  have hl60 : t.flat.length ≤ 60 := by rw [Tm.flat_len]; exact hf.small
  have hN6 : N ≤ 6 := by rw [← hN]; exact hf.cnt
  have hn24 : n ≤ 24 := by have := ho.s12; have := ho.l12; rw [← hn, List.length_append]; omega
  have hpl : (plL t.flat).length = N := by rw [plL_len, hN]
  have HSB := Lib.hid fun i (hi : i < t.flat.length) => show ∃ s, (subs t)[i]? = some s from ⟨_, List.getElem?_eq_getElem (show i < (subs t).length by rw [subs_len, ← Tm.flat_len]; exact hi)⟩
  have HPG := Lib.hid fun b (hb : b < N) => show ∃ a, (plUp t.flat t.flat.length)[b]? = some a ∧ a < t.flat.length from by
    have hlen : (plUp t.flat t.flat.length).length = N := by rw [plUp_len t.flat _ (Nat.le_refl _), List.take_length]; exact hN
    exact ⟨_, List.getElem?_eq_getElem (by omega), (plUp_get t.flat _ (Nat.le_refl _) b _ (List.getElem?_eq_getElem (by omega))).1⟩
  obtain ⟨xs, hES, aS, cS, rfl, hrS⟩ := hw.st
  obtain ⟨ys, hEL, aL, cL, rfl, hrL⟩ := hw.lp
  have HNN := Lib.hid (show (Wd.mk (Sm ++ Lp) Sm.length).n = n from hn)
  have HLT := Lib.hid (clU_lt (ahB ⟨Sm ++ Lp, Sm.length⟩ t))
  rw [hpl] at HPL
  clear hx h ht hf hw ho hES hrS hEL hrL hn hN hpl
  go_enter Tryd.func27, Tryd.ntmps27
  go_wp2_with fail
  refine HOP.out.mono ?_
  rintro e w1 ⟨T, rfl, hT⟩
  obtain ⟨RB, fv, ev, al, cl, hb, hrows⟩ := hT.row
  rw [HNN.out] at hb hrows
  have HB := Lib.hid hb
  have HRW := Lib.hid hrows
  have HE1 := Lib.hid (HX.out.trans hT.ext)
  clear hT hb hrows HOP
  go_wp2_with fail
  refine (HPL.out _ HE1.out).mono ?_
  rintro e w2 ⟨ap, cp, rfl, hop, hE2⟩
  have HOP := Lib.hid hop
  have HE2 := Lib.hid (HE1.out.trans hE2)
  have hb2 := blk_ext HB.out hE2
  have HB2 := Lib.hid hb2
  have HX2 := Lib.hid hE2
  have c2 : w2.cell? ⟨T, 2, none⟩ = some (.slice al n cl) := blk_cell hb2 (i := 2) rfl
  clear hop hE2 HPL hb2 HB
  go_wp2_with (at_make; go_must (refine wpList_make_full _ rfl _ _ 25 rfl w2.heap.size 3 (Tryd.slInts.inf.choose) (.int .i64 0) 1 Tryd.underlying25 Tryd.slInts.inf.choose_spec.1 Tryd.slInts.inf.choose_spec.2.1 Tryd.slInts.inf.choose_spec.2.2.1 .i64 .i64 n n n rfl rfl rfl rfl (by rw [Tryd.slInts.inf.choose_spec.2.2.2]; omega) (by unfold maxLen; omega) (Nat.le_refl _) ?_))
  intro w3 hown3 hg3
  have hmx : (madeCells #[Value.int .i64 0] n).toList = rowI n (clU (ahB ⟨Sm ++ Lp, Sm.length⟩ t) 0) := by
    rw [toList_madeCells_one, rowI]
    apply List.ext_getElem?
    intro j
    by_cases h : j < n <;> simp [h, clU]
  rw [hmx] at hown3
  have HO3 := Lib.hid hown3
  have HE3 := Lib.hid ((Ext.refl w2).grown hg3 (Nat.le_refl _) (by simp))
  clear hown3 hg3 hmx c2
  obtain ⟨D, hD⟩ : ∃ D, w2.heap.size = D := ⟨_, rfl⟩
  rw [hD] at HO3 ⊢
  have HD := Lib.hid hD
  clear hD
  generalize hff : ahB ⟨Sm ++ Lp, Sm.length⟩ t = f at *
  have HFF := Lib.hid hff
  clear hff
  go_wp2_with fail
  go_loopg [41] N (fun m x wr => ∃ b : Nat, m + b = N ∧ x = .int .i64 (b : Int) ∧ Ext w2 wr ∧ wr.ownsRow D 3 1 (.slice (some ⟨D, 0, none⟩) n n) n (rowI n (clU f b)))
  case atStart => exact ⟨0, by omega, by go_num, HE3.out, HO3.out⟩
  case round =>
    obtain ⟨b, hmb, rfl, hE, hO⟩ := hrel
    have HMB := Lib.hid hmb
    have HE := Lib.hid hE
    have HO := Lib.hid hO
    obtain ⟨G0, rfl⟩ : ∃ G0 : Nat, G0 = gk := ⟨_, rfl⟩
    by_cases hbN : b < N
    · obtain ⟨_, _, e, hrp⟩ := HOP.out.row
      simp only [Value.slice.injEq] at e
      obtain ⟨rfl, _, rfl⟩ := e
      obtain ⟨bp, op, hp1, hp2⟩ := row_ints hrp
      have hpl0 : 0 < (plL t.flat).length := by
        have := hrp.len
        simp at this
        omega
      obtain rfl := hp1 hpl0
      obtain ⟨q, hq, hql⟩ := HPG.out b hbN
      obtain ⟨s, hs⟩ := HSB.out q hql
      have cP := cell_later hE (hp2 b (q : Int) (by rw [plL, List.getElem?_map, hq]; rfl))
      obtain ⟨R, cR, oR⟩ := HRW.out q s hs
      have cR' := cell_later (HX2.out.trans hE) cR
      have HOR := Lib.hid (own_ext oR (HX2.out.trans hE))
      have hRl : R ≠ D := by have h1 := (oR.lt R rfl).2; have h2 := HX2.out.size; have h3 := HD.out; omega
      have HFV := Lib.hid (show ∀ i, f b i = satB ⟨Sm ++ Lp, Sm.length⟩ s i from fun i => by
        rw [← HFF.out]
        unfold ahB
        have e : (plUp t.flat t.flat.length).getD b 0 = q := by simp [List.getD, hq]
        rw [e, hs])
      have c4 : wr.cell? ⟨T, 4, none⟩ = some (.slice (some ⟨RB, 0, none⟩) t.flat.length t.flat.length) := blk_cell (blk_ext HB2.out hE) (i := 4) rfl
      have hbI : (b : Int) < (N : Int) := by omega
      have hb0 : (0 : Int) ≤ (b : Int) := by omega
      have hqI : (q : Int) < (t.flat.length : Int) := by omega
      have hq0 : (0 : Int) ≤ (q : Int) := by omega
      clear hmb hp1 hp2 hrp hpl0 hq hs cR oR hE hO
      go_wp2_with fail
      clear cP cR' c4
      obtain ⟨wo, rfl⟩ : ∃ wo : World, wo = wr := ⟨_, rfl⟩
      go_loopg [54] n (fun m x wi => ∃ i : Nat, m + i = n ∧ x = .int .i64 (i : Int) ∧ Ext w2 wi ∧ wo.grownBy wi (some D) ∧ wi.ownsRow D 3 1 (.slice (some ⟨D, 0, none⟩) n n) n (rowI n fun j => if j < i then clU f (b + 1) j else clU f b j))
      case atStart => exact ⟨0, by omega, by go_num, HE.out, ⟨rfl, rfl, rfl, Nat.le_refl _, fun _ _ _ => rfl⟩, by simpa using HO.out⟩
      case round =>
        obtain ⟨i, hmi, rfl, hE2, hg, hO2⟩ := hrel
        have HMI := Lib.hid hmi
        have HE2' := Lib.hid hE2
        have HG := Lib.hid hg
        have HO2 := Lib.hid hO2
        by_cases hi : i < n
        · have cr := hg.cell (rowF_cell HOR.out hi) (by simpa using hRl)
          have co : wr.cell? ⟨D, i, none⟩ = some (.int .i64 (clU f b i : Int)) := by
            have h := rowI_cell hO2 hi
            rw [if_neg (by omega)] at h
            exact h
          have fo := own_freeAt hO2 i
          have hlt := HLT.out i b
          have hp6 : 2 ^ b ≤ 2 ^ 6 := Nat.pow_le_pow_right (by omega) (by omega)
          have hpe : ((2 ^ b : Nat) : Int) = (2 : Int) ^ b := by push_cast; rfl
          have hor : bits .or .i64 (clU f b i : Int) ((2 : Int) ^ b) = ((clU f b i ||| 2 ^ b : Nat) : Int) := by rw [← hpe]; exact i64_or_nat (clU f b i) (2 ^ b) (by omega) (by omega)
          have hw0 : IntKind.i64.wrap ((2 : Int) ^ b) = (2 : Int) ^ b := by rw [← hpe]; exact IntWalk.i64_in _ (by omega)
          have hV : clU f (b + 1) i = if f b i then clU f b i ||| 2 ^ b else clU f b i := rfl
          rw [HFV.out i] at hV
          have hiI : (i : Int) < (n : Int) := by omega
          have hi0 : (0 : Int) ≤ (i : Int) := by omega
          generalize hsx : satB ⟨Sm ++ Lp, Sm.length⟩ s i = x at *
          clear hsx hmi hE2 hg hO2 hlt hp6 hpe
          cases x
          · have HV := Lib.hid (show clU f (b + 1) i = clU f b i by simpa using hV)
            clear hV hor hw0
            go_wp2_with fail
            go_roundg (gk - 1)
            case measure => have := HMI.out; omega
            case rel => exact ⟨i + 1, by have := HMI.out; omega, by go_num, HE2'.out, HG.out, by rw [← keepI_val HV.out]; exact HO2.out⟩
          · have HV := Lib.hid (show clU f (b + 1) i = clU f b i ||| 2 ^ b by simpa using hV)
            clear hV
            go_upto_region 13 with fail
            go_region
            all_goals
              go_wp2_with fail
              go_roundg (gk - 1)
              case measure => have := HMI.out; omega
              case rel => exact ⟨i + 1, by have := HMI.out; omega, by go_num, Below.drew (ext_st HE2'.out (p := ⟨D, i, none⟩) (by have := HD.out; simp; omega) _), World.grownBy.later_drew (grown_st HG.out) 1, by have h := own_setAt HO2.out (i := i) (.int .i64 ((clU f (b + 1) i : Nat) : Int)); rw [rowI_set, updI_val, HV.out] at h; exact own_ext h (Below.drew (Ext.refl _))⟩
        · have hiI : ¬ (i : Int) < (n : Int) := by omega
          have hz : (rowI n fun j => if j < i then clU f (b + 1) j else clU f b j) = rowI n (clU f (b + 1)) := by
            unfold rowI
            exact List.map_congr_left fun j hj => by
              show Value.int .i64 ((if j < i then clU f (b + 1) j else clU f b j : Nat) : Int) = _
              rw [if_pos (by have := List.mem_range.1 hj; omega)]
          rw [hz] at hO2
          have HO3' := Lib.hid hO2
          clear hmi hE2 hg hO2 hz
          go_wp2_with fail
          go_roundg (G0 - 1)
          case measure => have := HMB.out; omega
          case rel => exact ⟨b + 1, by have := HMB.out; omega, by go_num, HE2'.out, HO3'.out⟩
    · obtain rfl : b = N := by omega
      have hbI : ¬ (b : Int) < (b : Int) := by omega
      have HEW := Lib.hid (HE2.out.trans hE)
      have HSZ := Lib.hid (show w.heap.size ≤ D by rw [← HD.out]; exact HE2.out.size)
      clear hmb hE hO
      go_wp2
      go_ret2
      exact ⟨D, rfl, by rw [HFF.out]; exact own_down HO.out HSZ.out, HEW.out⟩

end Go.Proofs.YtffjhhpikgodiaaDoor

namespace Go.Proofs.YtffjhhpikgodiaaDoor

theorem plUp_at (l : List Op2) (p : Nat) (ha : aheadB (l.getD p (0, 0)).1 = true) : ∀ i, i ≤ l.length → p < i → (plUp l i)[cntA (l.take p)]? = some p
  | 0, _, h => by omega
  | i + 1, hi, h => by
    unfold plUp
    by_cases e : p = i
    · subst e
      rw [if_pos ha, List.getElem?_append_right (by rw [plUp_len l p (by omega)]; exact Nat.le_refl _), plUp_len l p (by omega)]
      simp
    · have ih := plUp_at l p ha i (by omega) (by omega)
      split
      · rw [List.getElem?_append_left (List.getElem?_eq_some_iff.1 ih).1]; exact ih
      · exact ih
theorem ah_inj (l : List Op2) {p q : Nat} (hp : p < l.length) (hq : q < l.length) (ha : aheadB (l.getD p (0, 0)).1 = true) (hb : aheadB (l.getD q (0, 0)).1 = true) (h : cntA (l.take p) = cntA (l.take q)) : p = q := by
  have h1 := plUp_at l p ha l.length (Nat.le_refl _) hp
  have h2 := plUp_at l q hb l.length (Nat.le_refl _) hq
  rw [h, h2] at h1
  exact (Option.some.inj h1).symm

theorem meUp_bit (l : List Op2) (es : List Int) (tv : List Bool) (b : Nat) : ∀ i, i ≤ l.length → ((meUp l es tv i).testBit b = true ↔ ∃ p, p < i ∧ aheadB (l.getD p (0, 0)).1 = true ∧ metB (l.getD p (0, 0)).1 es tv p = true ∧ cntA (l.take p) = b)
  | 0, _ => by simp [meUp]
  | i + 1, hi => by
    have ih := meUp_bit l es tv b i (by omega)
    unfold meUp
    split
    · rename_i e
      simp only [Bool.and_eq_true] at e
      rw [Nat.testBit_or, Bool.or_eq_true, ih, Nat.testBit_two_pow]
      simp only [decide_eq_true_eq]
      constructor
      · rintro (⟨p, h1, h2⟩ | h)
        · exact ⟨p, by omega, h2⟩
        · exact ⟨i, by omega, e.1, e.2, h⟩
      · rintro ⟨p, h1, h2, h3, h4⟩
        by_cases hp : p = i
        · subst hp; exact .inr h4
        · exact .inl ⟨p, by omega, h2, h3, h4⟩
    · rename_i e
      rw [ih]
      constructor
      · rintro ⟨p, h1, h2⟩
        exact ⟨p, by omega, h2⟩
      · rintro ⟨p, h1, h2, h3, h4⟩
        by_cases hp : p = i
        · subst hp; exact absurd (by rw [h2, h3]; rfl) e
        · exact ⟨p, by omega, h2, h3, h4⟩

/-- What is met along a loop, together. -/
def macc (m : Nat → Nat) (back : Nat) : Nat → Nat
  | 0 => 0
  | i + 1 => if back ≤ i then macc m back i ||| m i else macc m back i
theorem macc_bit (m : Nat → Nat) (back b : Nat) : ∀ i, (macc m back i).testBit b = true ↔ ∃ j, back ≤ j ∧ j < i ∧ (m j).testBit b = true
  | 0 => by simp [macc]
  | i + 1 => by
    have ih := macc_bit m back b i
    unfold macc
    split
    · rename_i e
      rw [Nat.testBit_or, Bool.or_eq_true, ih]
      constructor
      · rintro (⟨j, h1, h2, h3⟩ | h)
        · exact ⟨j, h1, by omega, h3⟩
        · exact ⟨i, e, by omega, h⟩
      · rintro ⟨j, h1, h2, h3⟩
        by_cases hj : j = i
        · subst hj; exact .inr h3
        · exact .inl ⟨j, h1, by omega, h3⟩
    · rename_i e
      rw [ih]
      exact ⟨fun ⟨j, h1, h2, h3⟩ => ⟨j, h1, by omega, h3⟩, fun ⟨j, h1, h2, h3⟩ => ⟨j, h1, by omega, h3⟩⟩
theorem macc_lt {m : Nat → Nat} {N : Nat} (h : ∀ j, m j < 2 ^ N) (back : Nat) : ∀ i, macc m back i < 2 ^ N
  | 0 => Nat.two_pow_pos N
  | i + 1 => by
    unfold macc
    split
    · exact Nat.or_lt_two_pow (macc_lt h back i) (h i)
    · exact macc_lt h back i
theorem full_iff {x N : Nat} (h : x < 2 ^ N) : x = 2 ^ N - 1 ↔ ∀ b, b < N → x.testBit b = true := by
  constructor
  · rintro rfl b hb
    rw [Nat.testBit_two_pow_sub_one]; simpa using hb
  · intro h2
    apply Nat.eq_of_testBit_eq
    intro b
    rw [Nat.testBit_two_pow_sub_one]
    by_cases hb : b < N
    · rw [h2 b hb]; simp [hb]
    · rw [Nat.testBit_lt_two_pow (Nat.lt_of_lt_of_le h (Nat.pow_le_pow_right (by omega) (by omega)))]; simp [hb]

def metN (W : Wd) (t : Tm) (c : Nat → Nat) (i : Nat) : Nat := meUp t.flat (t.ends 0) (tvW W c t i) t.flat.length
def folN (W : Wd) (t : Tm) (c : Nat → Nat) (i : Nat) : Bool := folB t.flat (t.ends 0) (tvW W c t i) (tvW W c t (nxt W.n W.back i)) t.flat.length
theorem metN_lt (W : Wd) (t : Tm) (c : Nat → Nat) (i : Nat) : metN W t c i < 2 ^ cntA t.flat := by
  have := meUp_lt t.flat (t.ends 0) (tvW W c t i) t.flat.length (Nat.le_refl _)
  rwa [List.take_length] at this

section
variable {W : Wd} (hb : W.back < W.n) {t : Tm} (ht : t.ok) {props : Int} (hfit : ∀ o ∈ t.flat, FitOp props o)
include hb ht hfit

theorem ahB_at {p : Nat} {s : Tm} (hs : (subs t)[p]? = some s) (ha : aheadB s.kd = true) (i : Nat) : ahB W t (cntA (t.flat.take p)) i = satB W s i := by
  have _ := hb
  have _ := hfit
  have hp : p < t.size := by have := (List.getElem?_eq_some_iff.1 hs).1; rwa [subs_len] at this
  obtain ⟨s', hS⟩ := subs_at t ht p hp
  obtain rfl : s = s' := by have := hS.sub; rw [hs] at this; exact Option.some.inj this
  have h := plUp_at t.flat p (by rw [getD_op hS.op]; exact ha) t.flat.length (Nat.le_refl _) (by rw [Tm.flat_len]; exact hp)
  unfold ahB
  have e : (plUp t.flat t.flat.length).getD (cntA (t.flat.take p)) 0 = p := by simp [List.getD, h]
  rw [e, hs]
theorem cnt_lt {p : Nat} (hp : p < t.size) (ha : aheadB (t.flat.getD p (0, 0)).1 = true) : cntA (t.flat.take p) < cntA t.flat := by
  have _ := hb
  have _ := ht
  have _ := hfit
  have hl : p < t.flat.length := by rw [Tm.flat_len]; exact hp
  have h1 := cntA_take t.flat hl
  have h2 := cntA_take_le t.flat (p + 1)
  have hg : t.flat.getD p (0, 0) = t.flat[p] := by simp [List.getD, List.getElem?_eq_getElem hl]
  rw [hg] at ha
  rw [ha] at h1
  simp only [if_true] at h1
  omega

theorem claims_bits {N : Nat} (hN : cntA t.flat = N) {c : Nat → Nat} (hc : ∀ i, i < W.n → c i = clU (ahB W t) N i) :
    ∀ i, i < W.n → ∀ p s, (subs t)[p]? = some s → aheadB s.kd = true → (c i).testBit (cntA (t.flat.take p)) = satB W s i := by
  intro i hi p s hs ha
  have hp : p < t.size := by have := (List.getElem?_eq_some_iff.1 hs).1; rwa [subs_len] at this
  obtain ⟨s', hS⟩ := subs_at t ht p hp
  obtain rfl : s = s' := by have := hS.sub; rw [hs] at this; exact Option.some.inj this
  have hl := cnt_lt hb ht hfit hp (by rw [getD_op hS.op]; exact ha)
  rw [hc i hi, clU_bit, ahB_at hb ht hfit hs ha i]
  simp; omega

/-- The truths along the line of what holds. -/
theorem claims_tv {N : Nat} (hN : cntA t.flat = N) {c : Nat → Nat} (hc : ∀ i, i < W.n → c i = clU (ahB W t) N i) (p : Nat) (s : Tm) (hs : (subs t)[p]? = some s) (i : Nat) (hi : i < W.n) : (tvW W c t i).getD p false = satB W s i :=
  claims_sat ht hfit (claims_bits hb ht hfit hN hc) t.size p (by omega) s hs i hi

theorem line_iff {N : Nat} (hN : cntA t.flat = N) {c : Nat → Nat} (hc : ∀ i, i < W.n → c i < 2 ^ N) :
    ((∀ i, i < W.n → folN W t c i = true) ∧ macc (metN W t c) W.back W.n = 2 ^ N - 1) ↔ ∀ i, i < W.n → c i = clU (ahB W t) N i := by
  have hm : macc (metN W t c) W.back W.n < 2 ^ N := macc_lt (fun j => by rw [← hN]; exact metN_lt W t c j) _ _
  rw [full_iff hm]
  constructor
  · rintro ⟨h1, h2⟩ i hi
    have key := line_sat hb ht hfit (c := c) (fun i hi p hp ha => (folB_iff _ _ _ _ _).1 (h1 i hi) p (by rw [Tm.flat_len]; exact hp) ha) (fun p hp ha => by
      have hl := cnt_lt hb ht hfit hp ha
      obtain ⟨j, e1, e2, e3⟩ := (macc_bit _ _ _ _).1 (h2 _ (by rw [← hN]; exact hl))
      obtain ⟨q, q1, q2, q3, q4⟩ := (meUp_bit _ _ _ _ _ (Nat.le_refl _)).1 e3
      obtain rfl : q = p := ah_inj t.flat q1 (by rw [Tm.flat_len]; exact hp) q2 ha q4
      exact ⟨j, e1, e2, q3⟩) t.size
    apply Nat.eq_of_testBit_eq
    intro b
    rw [clU_bit]
    by_cases hbN : b < N
    · have hlen : (plUp t.flat t.flat.length).length = N := by rw [plUp_len t.flat _ (Nat.le_refl _), List.take_length]; exact hN
      have hq := List.getElem?_eq_getElem (show b < (plUp t.flat t.flat.length).length by omega)
      generalize (plUp t.flat t.flat.length)[b] = p at hq
      obtain ⟨p1, p2, p3⟩ := plUp_get t.flat _ (Nat.le_refl _) b p hq
      rw [Tm.flat_len] at p1
      obtain ⟨s, hS⟩ := subs_at t ht p p1
      have ha : aheadB s.kd = true := by rw [getD_op hS.op] at p2; exact p2
      have hv := (tv_at (W.ls.getD i []) (c i) t ht p _ _ hS.op).ah ha
      rw [p3] at hv
      have hk := key p (by omega) s hS.sub i hi
      rw [show tvW W c t i = tvT (W.ls.getD i []) (c i) t 0 from rfl, getD_of hv] at hk
      have hA := ahB_at hb ht hfit hS.sub ha i
      rw [p3] at hA
      rw [hk, hA]
      simp [hbN]
    · rw [Nat.testBit_lt_two_pow (Nat.lt_of_lt_of_le (hc i hi) (Nat.pow_le_pow_right (by omega) (by omega)))]
      simp [hbN]
  · intro h
    have hs := claims_tv hb ht hfit hN h
    refine ⟨fun i hi => (folB_iff _ _ _ _ _).2 fun p hp ha => sat_keeps hb ht hfit hs i hi p (by rwa [Tm.flat_len] at hp) ha, fun b hbN => (macc_bit _ _ _ _).2 ?_⟩
    have hlen : (plUp t.flat t.flat.length).length = N := by rw [plUp_len t.flat _ (Nat.le_refl _), List.take_length]; exact hN
    have hq := List.getElem?_eq_getElem (show b < (plUp t.flat t.flat.length).length by omega)
    generalize (plUp t.flat t.flat.length)[b] = p at hq
    obtain ⟨p1, p2, p3⟩ := plUp_get t.flat _ (Nat.le_refl _) b p hq
    obtain ⟨j, e1, e2, e3⟩ := sat_meets hb ht hfit hs p (by rwa [Tm.flat_len] at p1) p2
    exact ⟨j, e1, e2, (meUp_bit _ _ _ _ _ (Nat.le_refl _)).2 ⟨p, p1, p2, e3, p3⟩⟩
end

end Go.Proofs.YtffjhhpikgodiaaDoor

namespace Go.Proofs.YtffjhhpikgodiaaDoor
open Go.RowKit

section
variable {v : Value} {t : Tm} {Sm Lp : List (List Bool)} {w : World} {vs : List Value} {c : Nat → Nat} {n N i : Nat} (h : IsT w v t) (ht : Tab w) (hf : IsF t.flat 3 t) (hv : EachB w vs (Sm ++ Lp)) (ho : WdOk Sm Lp 3) (hn : (Sm ++ Lp).length = n) (hN : cntA t.flat = N) (hi : i < n) {x : Value} (hx : vs[i]? = some x) (hci : c i < 2 ^ N)
include h ht hf hv ho hn hN hi hx hci

theorem let_at : ∃ L : List Bool, (Sm ++ Lp).getD i [] = L ∧ L.length = 3 ∧ Bools w x L ∧ IsF t.flat (L.length : Int) t ∧ c i < 2 ^ cntA t.flat := by
  have _ := h
  have _ := ht
  have hil : i < (Sm ++ Lp).length := by omega
  have hg := List.getElem?_eq_getElem hil
  have h3 := ho.let' _ (List.getElem_mem hil)
  refine ⟨(Sm ++ Lp)[i], by rw [List.getD, hg]; rfl, h3, hv.2 i _ _ hx hg, by rw [h3]; exact hf, by rw [hN]; exact hci⟩

theorem fol_at {k : Nat} (hk : nxt n Sm.length i = k) (hkn : k < n) {y : Value} (hy : vs[k]? = some y) (hck : c k < 2 ^ N) :
    Calls Tryd.prog 28 #[v, x, .int .i64 (c i : Int), y, .int .i64 (c k : Int)] w fun e w' => e = .returned (.tuple #[.bool (folN ⟨Sm ++ Lp, Sm.length⟩ t c i), .int .i64 0]) ∧ Ext w w' := by
  obtain ⟨L1, e1, l1, b1, f1, c1⟩ := let_at h ht hf hv ho hn hN hi hx hci
  obtain ⟨L2, e2, l2, b2, f2, c2⟩ := let_at h ht hf hv ho hn hN hkn hy hck
  have := follows_any v t.flat t x y L1 L2 (c i) (c k) w h ht f1 b1 b2 (by omega) c1 c2
  unfold folN tvW
  rw [show nxt (Wd.mk (Sm ++ Lp) Sm.length).n (Wd.mk (Sm ++ Lp) Sm.length).back i = k from by show nxt (Sm ++ Lp).length Sm.length i = k; rw [hn]; exact hk]
  rw [show (Wd.mk (Sm ++ Lp) Sm.length).ls = Sm ++ Lp from rfl, e1, e2]
  exact this
theorem fol_atb {k : Nat} (hk : nxt n Sm.length i = k) (hkn : k < n) {y : Value} (hy : vs[k]? = some y) (hck : c k < 2 ^ N) {b : Bool} (hb : folN ⟨Sm ++ Lp, Sm.length⟩ t c i = b) :
    Calls Tryd.prog 28 #[v, x, .int .i64 (c i : Int), y, .int .i64 (c k : Int)] w fun e w' => e = .returned (.tuple #[.bool b, .int .i64 0]) ∧ Ext w w' := by
  have := fol_at h ht hf hv ho hn hN hi hx hci hk hkn hy hck
  rw [hb] at this
  exact this
theorem tru_at : Calls Tryd.prog 19 #[v, x, .int .i64 (c i : Int)] w fun e w' => ∃ D, e = .returned (.tuple #[.slice (some ⟨D, 0, none⟩) t.flat.length t.flat.length, .int .i64 0]) ∧ w'.ownsRow w.heap.size 4 1 (.slice (some ⟨D, 0, none⟩) t.flat.length t.flat.length) t.flat.length ((tvW ⟨Sm ++ Lp, Sm.length⟩ c t i).map .bool) ∧ Ext w w' := by
  obtain ⟨L1, e1, l1, b1, f1, c1⟩ := let_at h ht hf hv ho hn hN hi hx hci
  have := truths_any v t.flat t x L1 (c i) w h ht f1 b1 c1
  unfold tvW
  rw [show (Wd.mk (Sm ++ Lp) Sm.length).ls = Sm ++ Lp from rfl, e1]
  exact this
theorem met_at : Calls Tryd.prog 22 #[v, x, .int .i64 (c i : Int)] w fun e w' => e = .returned (.tuple #[.int .i64 (metN ⟨Sm ++ Lp, Sm.length⟩ t c i : Int), .int .i64 0]) ∧ Ext w w' := by
  obtain ⟨L1, e1, l1, b1, f1, c1⟩ := let_at h ht hf hv ho hn hN hi hx hci
  have := meets_any v t.flat t x L1 (c i) w h ht f1 b1 c1
  unfold metN tvW
  rw [show (Wd.mk (Sm ++ Lp) Sm.length).ls = Sm ++ Lp from rfl, e1]
  exact this
end

end Go.Proofs.YtffjhhpikgodiaaDoor
