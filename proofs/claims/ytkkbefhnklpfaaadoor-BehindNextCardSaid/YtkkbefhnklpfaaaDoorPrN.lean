/- Several texts in one: WordP; SettleP; RowP; WordQ; Meets; LineP; Follows; FollowA; PrE; PrF; PrG. No condition. -/
import Derived.Test.YtkkbefhnklpfaaaDoorTruM
import Derived.Test.YtkkbefhnklpfaaaDoorShut
import Derived.Deep.RegionHeld3
import Derived.Deep.Cut
import Derived.Test.YtkkbefhnklpfaaaDoorPrM
namespace Go.Proofs.YtkkbefhnklpfaaaDoor

/-- The moment behind one: of n moments, the loop begins at back. -/
def nxt (n back i : Nat) : Nat := if i + 1 < n then i + 1 else back
def nxtN (n back : Nat) : Nat → Nat → Nat
  | 0, i => i
  | j + 1, i => nxtN n back j (nxt n back i)
theorem nxt_lt {n back i : Nat} (h : back < n) : nxt n back i < n := by unfold nxt; split <;> omega
theorem nxtN_lt {n back : Nat} (h : back < n) : ∀ j i, i < n → nxtN n back j i < n
  | 0, _, hi => hi
  | j + 1, _, _ => nxtN_lt h j _ (nxt_lt h)
theorem nxtN_add (n back : Nat) : ∀ j k i, nxtN n back (j + k) i = nxtN n back k (nxtN n back j i)
  | 0, k, i => by rw [Nat.zero_add]; rfl
  | j + 1, k, i => by rw [show j + 1 + k = (j + k) + 1 by omega]; exact nxtN_add n back j k (nxt n back i)

/-- A word: its letters (the stem's, then the loop's), and where the loop begins. -/
structure Wd where
  ls : List (List Bool)
  back : Nat
def Wd.n (W : Wd) : Nat := W.ls.length

/-- One holds till the other does; one holds till the other lets it go. -/
def UntilP (n back : Nat) (a b : Nat → Prop) (i : Nat) : Prop := ∃ j, b (nxtN n back j i) ∧ ∀ m, m < j → a (nxtN n back m i)
def RelP (n back : Nat) (a b : Nat → Prop) (i : Nat) : Prop := ∀ j, b (nxtN n back j i) ∨ ∃ m, m < j ∧ a (nxtN n back m i)

/-- What holds of a word, at a moment. -/
def Sat (W : Wd) : Tm → Nat → Prop
  | .n0 k v, i => if k = 13 then ((W.ls.getD i []).getD v.toNat false) = true else k = 11
  | .n1 k _ a, i =>
    if k = 10 then ¬ Sat W a i
    else if k = 14 then Sat W a (nxt W.n W.back i)
    else if k = 17 then UntilP W.n W.back (fun _ => True) (Sat W a) i
    else RelP W.n W.back (fun _ => False) (Sat W a) i
  | .n2 k _ a b, i =>
    if k = 8 then Sat W a i ∧ Sat W b i
    else if k = 9 then Sat W a i ∨ Sat W b i
    else if k = 15 then UntilP W.n W.back (Sat W a) (Sat W b) i
    else RelP W.n W.back (Sat W a) (Sat W b) i

/-- The laws of what looks ahead, moment by moment. -/
theorem until_iff (n back : Nat) (a b : Nat → Prop) (i : Nat) : UntilP n back a b i ↔ b i ∨ (a i ∧ UntilP n back a b (nxt n back i)) := by
  constructor
  · rintro ⟨j, h1, h2⟩
    cases j with
    | zero => exact .inl h1
    | succ j => exact .inr ⟨h2 0 (by omega), j, h1, fun m hm => h2 (m + 1) (by omega)⟩
  · rintro (h | ⟨h, j, h1, h2⟩)
    · exact ⟨0, h, fun m hm => by omega⟩
    · refine ⟨j + 1, h1, fun m hm => ?_⟩
      cases m with
      | zero => exact h
      | succ m => exact h2 m (by omega)
theorem rel_iff (n back : Nat) (a b : Nat → Prop) (i : Nat) : RelP n back a b i ↔ b i ∧ (a i ∨ RelP n back a b (nxt n back i)) := by
  constructor
  · intro h
    refine ⟨by rcases h 0 with h | ⟨m, hm, _⟩; exact h; omega, ?_⟩
    by_cases ha : a i
    · exact .inl ha
    · refine .inr fun j => ?_
      rcases h (j + 1) with h | ⟨m, hm, h⟩
      · exact .inl h
      · cases m with
        | zero => exact absurd h ha
        | succ m => exact .inr ⟨m, by omega, h⟩
  · rintro ⟨h1, h2⟩ j
    cases j with
    | zero => exact .inl h1
    | succ j =>
      rcases h2 with h2 | h2
      · exact .inr ⟨0, by omega, h2⟩
      · rcases h2 j with h | ⟨m, hm, h⟩
        · exact .inl h
        · exact .inr ⟨m + 1, by omega, h⟩
/-- Release is the turned Until. -/
theorem rel_not (n back : Nat) (a b : Nat → Prop) (i : Nat) : RelP n back a b i ↔ ¬ UntilP n back (fun x => ¬ a x) (fun x => ¬ b x) i := by
  constructor
  · rintro h ⟨j, h1, h2⟩
    rcases h j with h | ⟨m, hm, h⟩
    · exact h1 h
    · exact h2 m hm h
  · intro h j
    by_cases hb : b (nxtN n back j i)
    · exact .inl hb
    · right
      by_cases hx : ∃ m, m < j ∧ a (nxtN n back m i)
      · exact hx
      · exact absurd ⟨j, hb, fun m hm ha => hx ⟨m, hm, ha⟩⟩ h

/-- A row that keeps the law of an Until from below is the Until: each true cell has its reason, and nothing more can be turned. -/
theorem until_row {n back : Nat} {a b r : Nat → Prop} (hback : back < n) (h1 : ∀ i, i < n → r i → UntilP n back a b i) (h2 : ∀ i, i < n → (b i ∨ (a i ∧ r (nxt n back i))) → r i) : ∀ i, i < n → (r i ↔ UntilP n back a b i) := by
  intro i hi
  refine ⟨h1 i hi, ?_⟩
  rintro ⟨j, hb, ha⟩
  induction j generalizing i with
  | zero => exact h2 i hi (.inl hb)
  | succ j ih => exact h2 i hi (.inr ⟨ha 0 (by omega), ih _ (nxt_lt hback) hb fun m hm => ha (m + 1) (by omega)⟩)
theorem rel_row {n back : Nat} {a b r : Nat → Prop} (hback : back < n) (h1 : ∀ i, i < n → RelP n back a b i → r i) (h2 : ∀ i, i < n → r i → (b i ∧ (a i ∨ r (nxt n back i)))) : ∀ i, i < n → (r i ↔ RelP n back a b i) := by
  intro i hi
  refine ⟨fun h j => ?_, h1 i hi⟩
  induction j generalizing i with
  | zero => exact .inl (h2 i hi h).1
  | succ j ih =>
    obtain ⟨_, h3 | h3⟩ := h2 i hi h
    · exact .inr ⟨0, by omega, h3⟩
    · rcases ih _ (nxt_lt hback) h3 with h | ⟨m, hm, h⟩
      · exact .inl h
      · exact .inr ⟨m + 1, by omega, h⟩

end Go.Proofs.YtkkbefhnklpfaaaDoor

namespace Go.Proofs.YtkkbefhnklpfaaaDoor

def updB (r : Nat → Bool) (i : Nat) (v : Bool) : Nat → Bool := fun x => if x = i then v else r x

/-- What holds while a row is settled: what was turned has its reason, and rightly so. -/
structure Sets (n back : Nat) (bg : Bool) (law : Nat → Bool → Bool) (fix : Nat → Prop) (r : Nat → Bool) : Prop where
  sup : ∀ i, i < n → r i = !bg → law i (r (nxt n back i)) = !bg
  snd : ∀ i, i < n → r i = !bg → fix i

theorem Sets.begin (n back : Nat) (bg : Bool) (law : Nat → Bool → Bool) (fix : Nat → Prop) : Sets n back bg law fix fun _ => bg :=
  ⟨fun _ _ h => absurd (show bg = !bg from h) (by cases bg <;> simp), fun _ _ h => absurd (show bg = !bg from h) (by cases bg <;> simp)⟩

/-- Where the law says otherwise the cell still is what it was at the beginning. -/
theorem Sets.old {n back : Nat} {bg : Bool} {law : Nat → Bool → Bool} {fix : Nat → Prop} {r : Nat → Bool} (h : Sets n back bg law fix r) {i : Nat} (hi : i < n) (hv : law i (r (nxt n back i)) ≠ r i) : r i = bg ∧ law i (r (nxt n back i)) = !bg := by
  have h1 := h.sup i hi
  cases hr : r i <;> cases bg <;> cases hl : law i (r (nxt n back i)) <;> simp_all

theorem Sets.turn {n back : Nat} {bg : Bool} {law : Nat → Bool → Bool} {fix : Nat → Prop} {r : Nat → Bool} (h : Sets n back bg law fix r) (hback : back < n) (hm : ∀ i, law i bg = !bg → law i (!bg) = !bg)
    (hs : ∀ i x, i < n → law i x = !bg → (x = !bg → fix (nxt n back i)) → fix i) {i : Nat} (hi : i < n) (hv : law i (r (nxt n back i)) = !bg) : Sets n back bg law fix (updB r i (!bg)) := by
  have hup : ∀ j, law j (r (nxt n back j)) = !bg → law j (updB r i (!bg) (nxt n back j)) = !bg := fun j hj => by
    unfold updB
    split
    · cases hx : r (nxt n back j) <;> rw [hx] at hj <;> cases bg <;> first | exact hj | exact hm j hj
    · exact hj
  refine ⟨fun j hj hr => ?_, fun j hj hr => ?_⟩
  · by_cases e : j = i
    · subst e; exact hup j hv
    · rw [updB, if_neg e] at hr
      exact hup j (h.sup j hj hr)
  · by_cases e : j = i
    · subst e
      exact hs j _ hj hv fun hx => h.snd _ (nxt_lt hback) hx
    · rw [updB, if_neg e] at hr
      exact h.snd j hj hr

/-- So many cells still are what they were at the beginning. -/
def cntB (n : Nat) (bg : Bool) (r : Nat → Bool) : Nat := ((List.range n).filter fun i => r i == bg).length
theorem cntB_turn {bg : Bool} {r : Nat → Bool} {i : Nat} (hr : r i = bg) : ∀ n, i < n → cntB n bg (updB r i (!bg)) + 1 = cntB n bg r
  | 0, h => by omega
  | n + 1, h => by
    unfold cntB
    rw [List.range_succ, List.filter_append, List.filter_append, List.length_append, List.length_append]
    by_cases e : i = n
    · subst e
      have h1 : (List.range i).filter (fun j => updB r i (!bg) j == bg) = (List.range i).filter fun j => r j == bg := List.filter_congr fun j hj => by
        have := List.mem_range.1 hj
        rw [updB, if_neg (by omega)]
      rw [h1]
      have h2 : (updB r i (!bg) i == bg) = false := by rw [updB, if_pos rfl]; cases bg <;> rfl
      have h3 : (r i == bg) = true := by rw [hr]; cases bg <;> rfl
      simp [h2, h3]
    · have ih := cntB_turn (bg := bg) hr n (by omega)
      unfold cntB at ih
      have h2 : (updB r i (!bg) n == bg) = (r n == bg) := by rw [updB, if_neg (fun x => e x.symm)]
      simp only [List.filter_cons, List.filter_nil, h2]
      omega

def lawU (a b : Nat → Bool) (i : Nat) (x : Bool) : Bool := b i || (a i && x)
def lawR (a b : Nat → Bool) (i : Nat) (x : Bool) : Bool := b i && (a i || x)
theorem lawU_mono (a b : Nat → Bool) (i : Nat) (h : lawU a b i false = !false) : lawU a b i (!false) = !false := by
  revert h; unfold lawU; cases a i <;> cases b i <;> decide
theorem lawR_mono (a b : Nat → Bool) (i : Nat) (h : lawR a b i true = !true) : lawR a b i (!true) = !true := by
  revert h; unfold lawR; cases a i <;> cases b i <;> decide
theorem lawU_step {n back : Nat} (a b : Nat → Bool) (i : Nat) (x : Bool) (_hi : i < n) (h : lawU a b i x = !false) (hx : x = !false → UntilP n back (fun j => a j = true) (fun j => b j = true) (nxt n back i)) : UntilP n back (fun j => a j = true) (fun j => b j = true) i := by
  rw [until_iff]
  unfold lawU at h
  simp only [Bool.not_false, Bool.or_eq_true, Bool.and_eq_true] at h hx
  rcases h with h | ⟨h1, h2⟩
  · exact .inl h
  · exact .inr ⟨h1, hx h2⟩
theorem lawR_step {n back : Nat} (a b : Nat → Bool) (i : Nat) (x : Bool) (_hi : i < n) (h : lawR a b i x = !true) (hx : x = !true → ¬ RelP n back (fun j => a j = true) (fun j => b j = true) (nxt n back i)) : ¬ RelP n back (fun j => a j = true) (fun j => b j = true) i := by
  rw [rel_iff]
  unfold lawR at h
  simp only [Bool.not_true, Bool.and_eq_false_iff, Bool.or_eq_false_iff] at h hx
  rintro ⟨h1, h2⟩
  rcases h with h | ⟨h3, h4⟩
  · rw [h] at h1; cases h1
  · rcases h2 with h2 | h2
    · rw [h3] at h2; cases h2
    · exact hx h4 h2
/-- A row at which nothing changes any more is the Until. -/
theorem settled_until {n back : Nat} {a b r : Nat → Bool} (hback : back < n) (h : Sets n back false (lawU a b) (UntilP n back (fun j => a j = true) (fun j => b j = true)) r) (hs : ∀ i, i < n → lawU a b i (r (nxt n back i)) = r i) :
    ∀ i, i < n → (r i = true ↔ UntilP n back (fun j => a j = true) (fun j => b j = true) i) :=
  until_row (r := fun i => r i = true) hback (fun i hi hr => h.snd i hi hr) fun i hi hx => by
    rw [← hs i hi]
    unfold lawU
    rcases hx with hx | ⟨h1, h2⟩
    · rw [hx]; rfl
    · rw [h1, h2]; simp
theorem settled_rel {n back : Nat} {a b r : Nat → Bool} (hback : back < n) (h : Sets n back true (lawR a b) (fun i => ¬ RelP n back (fun j => a j = true) (fun j => b j = true) i) r) (hs : ∀ i, i < n → lawR a b i (r (nxt n back i)) = r i) :
    ∀ i, i < n → (r i = true ↔ RelP n back (fun j => a j = true) (fun j => b j = true) i) :=
  rel_row (r := fun i => r i = true) hback (fun i hi hr => by
    cases hx : r i
    · exact absurd hr (h.snd i hi hx)
    · rfl) fun i hi hr => by
    rw [← hs i hi] at hr
    unfold lawR at hr
    simpa using hr

end Go.Proofs.YtkkbefhnklpfaaaDoor

namespace Go.Proofs.YtkkbefhnklpfaaaDoor

def Tm.kd : Tm → Int
  | .n0 k _ => k
  | .n1 k _ _ => k
  | .n2 k _ _ _ => k
def Tm.vl : Tm → Int
  | .n0 _ v => v
  | .n1 _ v _ => v
  | .n2 _ v _ _ => v
def subs : Tm → List Tm
  | .n0 k v => [.n0 k v]
  | .n1 k v a => .n1 k v a :: subs a
  | .n2 k v a b => .n2 k v a b :: (subs a ++ subs b)
theorem subs_len (t : Tm) : (subs t).length = t.size := by
  induction t with
  | n0 => rfl
  | n1 k v a ih => simp [subs, Tm.size, ih]
  | n2 k v a b ih1 ih2 => simp [subs, Tm.size, ih1, ih2]
theorem subs_head (t : Tm) : (subs t)[0]? = some t := by cases t <;> rfl

/-- The term that begins at a place, and where its parts begin. -/
structure SubAt (l : List Op2) (es : List Int) (S : List Tm) (i : Nat) (s : Tm) : Prop where
  op : l[i]? = some (s.kd, s.vl)
  sub : S[i]? = some s
  ok : s.ok
  one : ∀ k v a, s = .n1 k v a → S[i + 1]? = some a
  two : ∀ k v a b, s = .n2 k v a b → S[i + 1]? = some a ∧ es[i + 1]? = some (secAt es i : Int) ∧ i + 1 < secAt es i ∧ S[secAt es i]? = some b

theorem subs_law (t : Tm) (ht : t.ok) : ∀ (pre post : List Op2) (ea eb : List Int) (sa sb : List Tm), ea.length = pre.length → sa.length = pre.length →
    ∀ i, i < t.size → ∃ s, SubAt (pre ++ t.flat ++ post) (ea ++ t.ends pre.length ++ eb) (sa ++ subs t ++ sb) (pre.length + i) s := by
  induction t with
  | n0 k v =>
    intro pre post ea eb sa sb he hs i hi
    simp only [Tm.size] at hi
    obtain rfl : i = 0 := by omega
    refine ⟨.n0 k v, by simp [Tm.flat, Tm.kd, Tm.vl], by rw [← hs]; simp [subs], ht, fun _ _ _ h => (by cases h), fun _ _ _ _ h => (by cases h)⟩
  | n1 k v a ih =>
    intro pre post ea eb sa sb he hs i hi
    obtain ⟨h1, h2, h3, h4⟩ := ht
    have e1 : pre ++ Tm.flat (.n1 k v a) ++ post = (pre ++ [(k, v)]) ++ a.flat ++ post := by simp [Tm.flat]
    have e2 : ea ++ Tm.ends (.n1 k v a) pre.length ++ eb = (ea ++ [((pre.length + 1 + a.size : Nat) : Int)]) ++ a.ends (pre ++ [(k, v)]).length ++ eb := by simp [Tm.ends]
    have e3 : sa ++ subs (.n1 k v a) ++ sb = (sa ++ [Tm.n1 k v a]) ++ subs a ++ sb := by simp [subs]
    by_cases hi0 : i = 0
    · subst hi0
      refine ⟨.n1 k v a, by simp [Tm.flat, Tm.kd, Tm.vl], by rw [← hs]; simp [subs], ⟨h1, h2, h3, h4⟩, fun _ _ _ h => ?_, fun _ _ _ _ h => (by cases h)⟩
      cases h
      rw [e3, List.append_assoc, List.getElem?_append_right (by simp [hs]), List.getElem?_append_left (by rw [subs_len]; simp [hs]; exact a.size_pos)]
      simpa [hs] using subs_head a
    · have := ih h4 (pre ++ [(k, v)]) post (ea ++ [((pre.length + 1 + a.size : Nat) : Int)]) eb (sa ++ [Tm.n1 k v a]) sb (by simp [he]) (by simp [hs]) (i - 1) (by simp only [Tm.size] at hi; omega)
      rw [← e1, ← e2, ← e3, show (pre ++ [(k, v)]).length + (i - 1) = pre.length + i by simp; omega] at this
      exact this
  | n2 k v x y ih1 ih2 =>
    intro pre post ea eb sa sb he hs i hi
    obtain ⟨h1, h2, h3, h4, h5⟩ := ht
    have hfx := x.flat_len
    have hex := x.ends_len (pre.length + 1)
    have hsx := x.size_pos
    have hsy := y.size_pos
    have hlx := subs_len x
    have hly := subs_len y
    obtain ⟨E0, hE0⟩ : ∃ e, e = ((pre.length + 1 + x.size + y.size : Nat) : Int) := ⟨_, rfl⟩
    have e1 : pre ++ Tm.flat (.n2 k v x y) ++ post = (pre ++ [(k, v)]) ++ x.flat ++ (y.flat ++ post) := by simp [Tm.flat]
    have e1' : pre ++ Tm.flat (.n2 k v x y) ++ post = (pre ++ [(k, v)] ++ x.flat) ++ y.flat ++ post := by simp [Tm.flat]
    have e2 : ea ++ Tm.ends (.n2 k v x y) pre.length ++ eb = (ea ++ [E0]) ++ x.ends (pre ++ [(k, v)]).length ++ (y.ends (pre.length + 1 + x.size) ++ eb) := by simp [Tm.ends, hE0]
    have e2' : ea ++ Tm.ends (.n2 k v x y) pre.length ++ eb = (ea ++ [E0] ++ x.ends (pre.length + 1)) ++ y.ends (pre ++ [(k, v)] ++ x.flat).length ++ eb := by
      rw [show (pre ++ [(k, v)] ++ x.flat).length = pre.length + 1 + x.size by simp [hfx]; omega]
      simp [Tm.ends, hE0]
    have e3 : sa ++ subs (.n2 k v x y) ++ sb = (sa ++ [Tm.n2 k v x y]) ++ subs x ++ (subs y ++ sb) := by simp [subs]
    have e3' : sa ++ subs (.n2 k v x y) ++ sb = (sa ++ [Tm.n2 k v x y] ++ subs x) ++ subs y ++ sb := by simp [subs]
    by_cases hi0 : i = 0
    · subst hi0
      have hes : ((ea ++ [E0]) ++ x.ends (pre ++ [(k, v)]).length ++ (y.ends (pre.length + 1 + x.size) ++ eb))[pre.length + 0 + 1]? = some (((pre.length + 1 + x.size : Nat)) : Int) := by
        have hz := ends_zero x (pre.length + 1) (by rw [hex]; exact hsx)
        have hl2 : (pre ++ [(k, v)]).length = pre.length + 1 := by simp
        rw [hl2, List.append_assoc, List.getElem?_append_right (by simp [he]), List.getElem?_append_left (by rw [hex]; simp [he]; exact hsx)]
        rw [show pre.length + 0 + 1 - (ea ++ [E0]).length = 0 by simp [he], List.getElem?_eq_getElem (by rw [hex]; exact hsx), hz]
      have hsec : secAt ((ea ++ [E0]) ++ x.ends (pre ++ [(k, v)]).length ++ (y.ends (pre.length + 1 + x.size) ++ eb)) (pre.length + 0) = pre.length + 1 + x.size := by
        unfold secAt
        rw [List.getD, hes]
        show ((pre.length + 1 + x.size : Nat) : Int).toNat = _
        omega
      refine ⟨.n2 k v x y, by simp [Tm.flat, Tm.kd, Tm.vl], by rw [← hs]; simp [subs], ⟨h1, h2, h3, h4, h5⟩, fun _ _ _ h => (by cases h), fun _ _ _ _ h => ?_⟩
      cases h
      rw [e2, hsec]
      refine ⟨?_, hes, by omega, ?_⟩
      · rw [e3, List.append_assoc, List.getElem?_append_right (by simp [hs]), List.getElem?_append_left (by rw [hlx]; simp [hs]; exact hsx)]
        simpa [hs] using subs_head x
      · rw [e3', List.append_assoc, List.getElem?_append_right (by simp [hs, hlx]; omega), List.getElem?_append_left (by rw [hly]; simp [hs, hlx]; omega)]
        have e0 : pre.length + 1 + x.size - (sa ++ [Tm.n2 k v x y] ++ subs x).length = 0 := by simp [hs, hlx]; omega
        rw [e0]
        exact subs_head y
    · by_cases hix : i - 1 < x.size
      · have := ih1 h4 (pre ++ [(k, v)]) (y.flat ++ post) (ea ++ [E0]) (y.ends (pre.length + 1 + x.size) ++ eb) (sa ++ [Tm.n2 k v x y]) (subs y ++ sb) (by simp [he]) (by simp [hs]) (i - 1) hix
        rw [← e1, ← e2, ← e3, show (pre ++ [(k, v)]).length + (i - 1) = pre.length + i by simp; omega] at this
        exact this
      · have hpl : (pre ++ [(k, v)] ++ x.flat).length + (i - 1 - x.size) = pre.length + i := by simp [hfx]; omega
        have := ih2 h5 (pre ++ [(k, v)] ++ x.flat) post (ea ++ [E0] ++ x.ends (pre.length + 1)) eb (sa ++ [Tm.n2 k v x y] ++ subs x) sb (by simp [he, hex, hfx]) (by simp [hs, hlx, hfx]) (i - 1 - x.size) (by simp only [Tm.size] at hi; omega)
        rw [← e1', ← e2', ← e3', hpl] at this
        exact this

theorem subs_at (t : Tm) (ht : t.ok) (i : Nat) (hi : i < t.size) : ∃ s, SubAt t.flat (t.ends 0) (subs t) i s := by
  have := subs_law t ht [] [] [] [] [] [] rfl rfl i hi
  simpa using this

/-! What holds, as a truth. -/
noncomputable def satB (W : Wd) (t : Tm) (i : Nat) : Bool := @decide (Sat W t i) (Classical.propDecidable _)
theorem satB_iff {W : Wd} {t : Tm} {i : Nat} : satB W t i = true ↔ Sat W t i := by unfold satB; exact @decide_eq_true_iff _ (Classical.propDecidable _)
theorem satB_eq {W : Wd} {t : Tm} {i : Nat} {b : Bool} (h : Sat W t i ↔ b = true) : satB W t i = b := by
  rw [Bool.eq_iff_iff, satB_iff]; exact h

theorem until_congr {n back : Nat} {a a' b b' : Nat → Prop} (h1 : ∀ j, a j ↔ a' j) (h2 : ∀ j, b j ↔ b' j) (i : Nat) : UntilP n back a b i ↔ UntilP n back a' b' i := by
  obtain rfl : a = a' := funext fun j => propext (h1 j)
  obtain rfl : b = b' := funext fun j => propext (h2 j)
  exact Iff.rfl
theorem rel_congr {n back : Nat} {a a' b b' : Nat → Prop} (h1 : ∀ j, a j ↔ a' j) (h2 : ∀ j, b j ↔ b' j) (i : Nat) : RelP n back a b i ↔ RelP n back a' b' i := by
  obtain rfl : a = a' := funext fun j => propext (h1 j)
  obtain rfl : b = b' := funext fun j => propext (h2 j)
  exact Iff.rfl

section
variable (W : Wd) (v : Int) (a b : Tm) (i : Nat)
theorem satB_prop : satB W (.n0 13 v) i = (W.ls.getD i []).getD v.toNat false := satB_eq (by simp [Sat])
theorem satB_yes : satB W (.n0 11 v) i = true := satB_eq (by simp [Sat])
theorem satB_no : satB W (.n0 12 v) i = false := satB_eq (by simp [Sat])
theorem satB_not : satB W (.n1 10 v a) i = !satB W a i := satB_eq (by simp [Sat, ← satB_iff])
theorem satB_next : satB W (.n1 14 v a) i = satB W a (nxt W.n W.back i) := satB_eq (by simp [Sat, ← satB_iff])
theorem satB_and : satB W (.n2 8 v a b) i = (satB W a i && satB W b i) := satB_eq (by simp [Sat, ← satB_iff])
theorem satB_or : satB W (.n2 9 v a b) i = (satB W a i || satB W b i) := satB_eq (by simp [Sat, ← satB_iff])
theorem satB_fin : satB W (.n1 17 v a) i = true ↔ UntilP W.n W.back (fun _ => true = true) (fun j => satB W a j = true) i := by
  rw [satB_iff]
  simp only [Sat, show ¬ (17 : Int) = 10 by decide, show ¬ (17 : Int) = 14 by decide, if_false, if_true]
  exact until_congr (fun _ => by simp) (fun _ => satB_iff.symm) i
theorem satB_glo : satB W (.n1 18 v a) i = true ↔ RelP W.n W.back (fun _ => false = true) (fun j => satB W a j = true) i := by
  rw [satB_iff]
  simp only [Sat, show ¬ (18 : Int) = 10 by decide, show ¬ (18 : Int) = 14 by decide, show ¬ (18 : Int) = 17 by decide, if_false]
  exact rel_congr (fun _ => by simp) (fun _ => satB_iff.symm) i
theorem satB_unt : satB W (.n2 15 v a b) i = true ↔ UntilP W.n W.back (fun j => satB W a j = true) (fun j => satB W b j = true) i := by
  rw [satB_iff]
  simp only [Sat, show ¬ (15 : Int) = 8 by decide, show ¬ (15 : Int) = 9 by decide, if_false, if_true]
  exact until_congr (fun _ => satB_iff.symm) (fun _ => satB_iff.symm) i
theorem satB_rel : satB W (.n2 16 v a b) i = true ↔ RelP W.n W.back (fun j => satB W a j = true) (fun j => satB W b j = true) i := by
  rw [satB_iff]
  simp only [Sat, show ¬ (16 : Int) = 8 by decide, show ¬ (16 : Int) = 9 by decide, show ¬ (16 : Int) = 15 by decide, if_false]
  exact rel_congr (fun _ => satB_iff.symm) (fun _ => satB_iff.symm) i
end

/-- The terms that logic.Check lets stand, by their kinds. -/
theorem tm_cases {props : Int} {s : Tm} (hok : s.ok) (hf : FitOp props (s.kd, s.vl)) :
    (∃ v, s = .n0 13 v ∧ 0 ≤ v ∧ v < props) ∨ (s = .n0 11 0) ∨ (s = .n0 12 0) ∨ (∃ a, s = .n1 10 0 a) ∨ (∃ a, s = .n1 14 0 a) ∨ (∃ a, s = .n1 17 0 a) ∨ (∃ a, s = .n1 18 0 a) ∨
    (∃ a b, s = .n2 8 0 a b) ∨ (∃ a b, s = .n2 9 0 a b) ∨ (∃ a b, s = .n2 15 0 a b) ∨ (∃ a b, s = .n2 16 0 a b) := by
  obtain ⟨h1, h2, h3, h4⟩ := hf
  cases s with
  | n0 k v =>
    obtain ⟨_, _, hp⟩ := hok
    simp only [Tm.kd, Tm.vl] at h1 h2 h3 h4
    have : k = 11 ∨ k = 12 ∨ k = 13 := by
      unfold partsOf at hp
      split at hp
      · cases hp
      · split at hp
        · cases hp
        · omega
    rcases this with rfl | rfl | rfl
    · obtain rfl := h4 (by omega); exact .inr (.inl rfl)
    · obtain rfl := h4 (by omega); exact .inr (.inr (.inl rfl))
    · exact .inl ⟨v, rfl, h3 rfl⟩
  | n1 k v a =>
    obtain ⟨_, _, hp, _⟩ := hok
    simp only [Tm.kd, Tm.vl] at h1 h2 h3 h4
    have : k = 10 ∨ k = 14 ∨ k = 17 ∨ k = 18 := by
      unfold partsOf at hp
      split at hp
      · cases hp
      · split at hp
        · omega
        · cases hp
    obtain rfl := h4 (by omega)
    rcases this with rfl | rfl | rfl | rfl
    · exact .inr (.inr (.inr (.inl ⟨a, rfl⟩)))
    · exact .inr (.inr (.inr (.inr (.inl ⟨a, rfl⟩))))
    · exact .inr (.inr (.inr (.inr (.inr (.inl ⟨a, rfl⟩)))))
    · exact .inr (.inr (.inr (.inr (.inr (.inr (.inl ⟨a, rfl⟩))))))
  | n2 k v a b =>
    obtain ⟨_, _, hp, _⟩ := hok
    simp only [Tm.kd, Tm.vl] at h1 h2 h3 h4
    have : k = 8 ∨ k = 9 ∨ k = 15 ∨ k = 16 := by
      unfold partsOf at hp
      split at hp
      · omega
      · split at hp
        · cases hp
        · cases hp
    obtain rfl := h4 (by omega)
    rcases this with rfl | rfl | rfl | rfl
    · exact .inr (.inr (.inr (.inr (.inr (.inr (.inr (.inl ⟨a, b, rfl⟩)))))))
    · exact .inr (.inr (.inr (.inr (.inr (.inr (.inr (.inr (.inl ⟨a, b, rfl⟩))))))))
    · exact .inr (.inr (.inr (.inr (.inr (.inr (.inr (.inr (.inr (.inl ⟨a, b, rfl⟩)))))))))
    · exact .inr (.inr (.inr (.inr (.inr (.inr (.inr (.inr (.inr (.inr ⟨a, b, rfl⟩)))))))))

end Go.Proofs.YtkkbefhnklpfaaaDoor

namespace Go.Proofs.YtkkbefhnklpfaaaDoor

/-! Words that are told in another way. -/
section
variable {n n' back back' : Nat} {h : Nat → Nat} (hb : back' < n') (hn : ∀ i, i < n' → h (nxt n' back' i) = nxt n back (h i))
include hb hn
theorem nxtN_map : ∀ j i, i < n' → h (nxtN n' back' j i) = nxtN n back j (h i)
  | 0, _, _ => rfl
  | j + 1, i, hi => by
    show h (nxtN n' back' j (nxt n' back' i)) = nxtN n back j (nxt n back (h i))
    rw [nxtN_map j _ (nxt_lt hb), hn i hi]
theorem until_map {a b a' b' : Nat → Prop} (ha : ∀ i, i < n' → (a' i ↔ a (h i))) (hbb : ∀ i, i < n' → (b' i ↔ b (h i))) (i : Nat) (hi : i < n') : UntilP n' back' a' b' i ↔ UntilP n back a b (h i) := by
  constructor
  · rintro ⟨j, h1, h2⟩
    exact ⟨j, by rw [← nxtN_map hb hn j i hi]; exact (hbb _ (nxtN_lt hb j i hi)).1 h1, fun m hm => by rw [← nxtN_map hb hn m i hi]; exact (ha _ (nxtN_lt hb m i hi)).1 (h2 m hm)⟩
  · rintro ⟨j, h1, h2⟩
    exact ⟨j, (hbb _ (nxtN_lt hb j i hi)).2 (by rw [nxtN_map hb hn j i hi]; exact h1), fun m hm => (ha _ (nxtN_lt hb m i hi)).2 (by rw [nxtN_map hb hn m i hi]; exact h2 m hm)⟩
theorem rel_map {a b a' b' : Nat → Prop} (ha : ∀ i, i < n' → (a' i ↔ a (h i))) (hbb : ∀ i, i < n' → (b' i ↔ b (h i))) (i : Nat) (hi : i < n') : RelP n' back' a' b' i ↔ RelP n back a b (h i) := by
  rw [rel_not, rel_not]
  exact not_congr (until_map hb hn (fun i hi => not_congr (ha i hi)) (fun i hi => not_congr (hbb i hi)) i hi)
end

theorem sat_map {W W' : Wd} {h : Nat → Nat} (hb : W'.back < W'.n) (hn : ∀ i, i < W'.n → h (nxt W'.n W'.back i) = nxt W.n W.back (h i)) (hl : ∀ i, i < W'.n → W'.ls.getD i [] = W.ls.getD (h i) []) (t : Tm) :
    ∀ i, i < W'.n → (Sat W' t i ↔ Sat W t (h i)) := by
  induction t with
  | n0 k v =>
    intro i hi
    unfold Sat
    rw [hl i hi]
  | n1 k v a ih =>
    intro i hi
    unfold Sat
    split
    · exact not_congr (ih i hi)
    · split
      · rw [← hn i hi]; exact ih _ (nxt_lt hb)
      · split
        · exact until_map (a := fun _ => True) (a' := fun _ => True) hb hn (fun _ _ => Iff.rfl) ih i hi
        · exact rel_map (a := fun _ => False) (a' := fun _ => False) hb hn (fun _ _ => Iff.rfl) ih i hi
  | n2 k v a b ih1 ih2 =>
    intro i hi
    unfold Sat
    split
    · exact and_congr (ih1 i hi) (ih2 i hi)
    · split
      · exact or_congr (ih1 i hi) (ih2 i hi)
      · split
        · exact until_map hb hn ih1 ih2 i hi
        · exact rel_map hb hn ih1 ih2 i hi

theorem satB_map {W W' : Wd} {h : Nat → Nat} (hb : W'.back < W'.n) (hn : ∀ i, i < W'.n → h (nxt W'.n W'.back i) = nxt W.n W.back (h i)) (hl : ∀ i, i < W'.n → W'.ls.getD i [] = W.ls.getD (h i) []) (t : Tm) (i : Nat) (hi : i < W'.n) :
    satB W' t i = satB W t (h i) := satB_eq ((sat_map hb hn hl t i hi).trans satB_iff.symm)

/-- The loop twice. -/
theorem word_twice (S L : List (List Bool)) (hL : 0 < L.length) (t : Tm) : satB ⟨S ++ (L ++ L), S.length⟩ t 0 = satB ⟨S ++ L, S.length⟩ t 0 := by
  refine satB_map (W := ⟨S ++ L, S.length⟩) (h := fun i => if i < (S ++ L).length then i else i - L.length) (by simp [Wd.n]; omega) ?_ ?_ t 0 (by simp [Wd.n]; omega) |>.trans ?_
  · intro i hi
    simp only [Wd.n, List.length_append] at hi ⊢
    unfold nxt
    split <;> split <;> split <;> first | omega | skip
    all_goals (try split) <;> (try split) <;> omega
  · intro i hi
    simp only [Wd.n, List.length_append] at hi ⊢
    simp only [List.getD]
    congr 1
    split
    · rw [← List.append_assoc, List.getElem?_append_left (by simpa using ‹_›)]
    · rw [← List.append_assoc, List.getElem?_append_right (by simp; omega), List.getElem?_append_right (by omega)]
      congr 1
      simp; omega
  · have e : (if 0 < (S ++ L).length then 0 else 0 - L.length) = 0 := by split <;> omega
    show satB _ t (if 0 < (S ++ L).length then 0 else 0 - L.length) = _
    rw [e]

/-- A letter of the loop in the stem. -/
theorem word_turned (S L : List (List Bool)) (x : List Bool) (t : Tm) : satB ⟨(S ++ [x]) ++ (L ++ [x]), S.length + 1⟩ t 0 = satB ⟨S ++ (x :: L), S.length⟩ t 0 := by
  refine satB_map (W := ⟨S ++ (x :: L), S.length⟩) (h := fun i => if i < S.length + L.length + 1 then i else S.length) (by simp [Wd.n]) ?_ ?_ t 0 (by simp [Wd.n]; omega) |>.trans ?_
  · intro i hi
    simp only [Wd.n, List.length_append, List.length_cons, List.length_nil] at hi ⊢
    unfold nxt
    split <;> split <;> split <;> first | omega | skip
    all_goals (try split) <;> (try split) <;> omega
  · intro i hi
    simp only [Wd.n, List.length_append, List.length_cons, List.length_nil] at hi ⊢
    simp only [List.getD]
    congr 1
    have e : (S ++ [x]) ++ (L ++ [x]) = (S ++ (x :: L)) ++ [x] := by simp
    rw [e]
    split
    · rw [List.getElem?_append_left (by simp; omega)]
    · have e2 : i = (S ++ (x :: L)).length := by simp; omega
      rw [e2]
      simp
  · have e : (if 0 < S.length + L.length + 1 then 0 else S.length) = 0 := by rw [if_pos (by omega)]
    show satB _ t (if 0 < S.length + L.length + 1 then 0 else S.length) = _
    rw [e]

/-- The word without its first letter. -/
theorem word_tail (S L : List (List Bool)) (x : List Bool) (hL : 0 < L.length) (v : Int) (t : Tm) : satB ⟨(x :: S) ++ L, S.length + 1⟩ (.n1 14 v t) 0 = satB ⟨S ++ L, S.length⟩ t 0 := by
  rw [satB_next]
  refine (satB_map (W := ⟨(x :: S) ++ L, S.length + 1⟩) (h := fun i => i + 1) (by simp [Wd.n]; omega) ?_ ?_ t 0 (by simp [Wd.n]; omega) |>.trans ?_).symm
  · intro i hi
    simp only [Wd.n, List.length_append, List.length_cons] at hi ⊢
    unfold nxt
    split <;> split <;> omega
  · intro i hi
    simp
  · congr 1
    simp only [Wd.n, List.length_append, List.length_cons]
    unfold nxt
    rw [if_pos (by omega)]
theorem word_turn (L : List (List Bool)) (x : List Bool) (v : Int) (t : Tm) : satB ⟨x :: L, 0⟩ (.n1 14 v t) 0 = satB ⟨L ++ [x], 0⟩ t 0 := by
  rw [satB_next]
  refine (satB_map (W := ⟨x :: L, 0⟩) (h := fun i => if i + 1 < L.length + 1 then i + 1 else 0) (by simp [Wd.n]) ?_ ?_ t 0 (by simp [Wd.n]) |>.trans ?_).symm
  · intro i hi
    simp only [Wd.n, List.length_append, List.length_cons, List.length_nil] at hi ⊢
    unfold nxt
    split <;> split <;> first | omega | skip
    all_goals (try split) <;> (try split) <;> omega
  · intro i hi
    simp only [Wd.n, List.length_append, List.length_cons, List.length_nil] at hi ⊢
    simp only [List.getD]
    congr 1
    split
    · rw [List.getElem?_append_left (by omega)]; simp
    · have e2 : i = L.length := by omega
      subst e2; simp
  · rfl

/-! Finally and Globally. -/
section
variable {n back : Nat} {a b c : Nat → Prop} {i : Nat}
theorem fin_iff : UntilP n back (fun _ => True) b i ↔ ∃ j, b (nxtN n back j i) := ⟨fun ⟨j, h, _⟩ => ⟨j, h⟩, fun ⟨j, h⟩ => ⟨j, h, fun _ _ => trivial⟩⟩
theorem glo_iff : RelP n back (fun _ => False) b i ↔ ∀ j, b (nxtN n back j i) := ⟨fun h j => (h j).elim id fun ⟨_, _, h⟩ => h.elim, fun h j => .inl (h j)⟩

theorem until_or : UntilP n back a (fun x => b x ∨ c x) i ↔ UntilP n back a b i ∨ UntilP n back a c i := by
  constructor
  · rintro ⟨j, h | h, h2⟩
    · exact .inl ⟨j, h, h2⟩
    · exact .inr ⟨j, h, h2⟩
  · rintro (⟨j, h, h2⟩ | ⟨j, h, h2⟩)
    · exact ⟨j, .inl h, h2⟩
    · exact ⟨j, .inr h, h2⟩
theorem until_and : UntilP n back (fun x => a x ∧ b x) c i ↔ UntilP n back a c i ∧ UntilP n back b c i := by
  constructor
  · rintro ⟨j, h, h2⟩
    exact ⟨⟨j, h, fun m hm => (h2 m hm).1⟩, j, h, fun m hm => (h2 m hm).2⟩
  · rintro ⟨⟨j, h, h2⟩, k, g, g2⟩
    by_cases hjk : j ≤ k
    · exact ⟨j, h, fun m hm => ⟨h2 m hm, g2 m (by omega)⟩⟩
    · exact ⟨k, g, fun m hm => ⟨h2 m (by omega), g2 m hm⟩⟩
theorem until_twice : UntilP n back a (UntilP n back a b) i ↔ UntilP n back a b i := by
  constructor
  · rintro ⟨j, ⟨k, h, h2⟩, g⟩
    rw [← nxtN_add] at h
    refine ⟨j + k, h, fun m hm => ?_⟩
    by_cases hmj : m < j
    · exact g m hmj
    · have := h2 (m - j) (by omega)
      rw [← nxtN_add, show j + (m - j) = m by omega] at this
      exact this
  · intro h
    exact ⟨0, h, fun m hm => by omega⟩
theorem rel_twice : RelP n back a (RelP n back a b) i ↔ RelP n back a b i := by
  rw [rel_not, rel_not n back a b i]
  refine not_congr ?_
  rw [← until_twice (b := fun x => ¬ b x)]
  refine until_congr (fun _ => Iff.rfl) (fun j => ?_) i
  rw [rel_not]
  exact Classical.not_not
end

/-! The laws, term by term. -/
section
variable (W : Wd) (v v2 v3 v4 v5 v6 : Int) (f g h : Tm) (i : Nat)
theorem sat_fin : Sat W (.n1 17 v f) i ↔ ∃ j, Sat W f (nxtN W.n W.back j i) := by
  simp only [Sat, show ¬ (17 : Int) = 10 by decide, show ¬ (17 : Int) = 14 by decide, if_false, if_true]
  exact fin_iff
theorem sat_glo : Sat W (.n1 18 v f) i ↔ ∀ j, Sat W f (nxtN W.n W.back j i) := by
  simp only [Sat, show ¬ (18 : Int) = 10 by decide, show ¬ (18 : Int) = 14 by decide, show ¬ (18 : Int) = 17 by decide, if_false]
  exact glo_iff
theorem sat_unt : Sat W (.n2 15 v f g) i ↔ UntilP W.n W.back (Sat W f) (Sat W g) i := by
  simp only [Sat, show ¬ (15 : Int) = 8 by decide, show ¬ (15 : Int) = 9 by decide, if_false, if_true]
theorem sat_rel : Sat W (.n2 16 v f g) i ↔ RelP W.n W.back (Sat W f) (Sat W g) i := by
  simp only [Sat, show ¬ (16 : Int) = 8 by decide, show ¬ (16 : Int) = 9 by decide, show ¬ (16 : Int) = 15 by decide, if_false]
theorem sat_not : Sat W (.n1 10 v f) i ↔ ¬ Sat W f i := by simp only [Sat, if_true]
theorem sat_next : Sat W (.n1 14 v f) i ↔ Sat W f (nxt W.n W.back i) := by simp only [Sat, show ¬ (14 : Int) = 10 by decide, if_false, if_true]
theorem sat_and : Sat W (.n2 8 v f g) i ↔ Sat W f i ∧ Sat W g i := by simp only [Sat, if_true]
theorem sat_or : Sat W (.n2 9 v f g) i ↔ Sat W f i ∨ Sat W g i := by simp only [Sat, show ¬ (9 : Int) = 8 by decide, if_false, if_true]

theorem satB_congr {W W' : Wd} {t u : Tm} {i j : Nat} (h : Sat W t i ↔ Sat W' u j) : satB W t i = satB W' u j := satB_eq (h.trans satB_iff.symm)

theorem dual_glo : satB W (.n1 18 v f) i = satB W (.n1 10 v2 (.n1 17 v3 (.n1 10 v4 f))) i := satB_congr (by
  rw [sat_glo, sat_not, sat_fin]
  simp only [sat_not]
  exact ⟨fun h ⟨j, hj⟩ => hj (h j), fun h j => Classical.byContradiction fun hn => h ⟨j, hn⟩⟩)
theorem dual_rel : satB W (.n2 16 v f g) i = satB W (.n1 10 v2 (.n2 15 v3 (.n1 10 v4 f) (.n1 10 v5 g))) i := satB_congr (by
  rw [sat_rel, sat_not, sat_unt, rel_not]
  exact not_congr (until_congr (fun j => (sat_not W v4 f j).symm) (fun j => (sat_not W v5 g j).symm) i))
theorem or_not : satB W (.n2 9 v f (.n1 10 v2 f)) i = true := by
  rw [satB_or, satB_not]; simp

theorem spread_glo : satB W (.n1 18 v (.n2 8 v2 f g)) i = satB W (.n2 8 v3 (.n1 18 v4 f) (.n1 18 v5 g)) i := satB_congr (by
  simp only [sat_glo, sat_and]
  exact forall_and)
theorem spread_fin : satB W (.n1 17 v (.n2 9 v2 f g)) i = satB W (.n2 9 v3 (.n1 17 v4 f) (.n1 17 v5 g)) i := satB_congr (by
  simp only [sat_fin, sat_or]
  exact exists_or)
theorem spread_unt : satB W (.n2 15 v f (.n2 9 v2 g h)) i = satB W (.n2 9 v3 (.n2 15 v4 f g) (.n2 15 v5 f h)) i := satB_congr (by
  rw [sat_unt, sat_or, sat_unt, sat_unt, ← until_or]
  exact until_congr (fun _ => Iff.rfl) (fun j => sat_or W v2 g h j) i)
theorem spread_both : satB W (.n2 15 v (.n2 8 v2 f g) h) i = satB W (.n2 8 v3 (.n2 15 v4 f h) (.n2 15 v5 g h)) i := satB_congr (by
  rw [sat_unt, sat_and, sat_unt, sat_unt, ← until_and]
  exact until_congr (fun j => sat_and W v2 f g j) (fun _ => Iff.rfl) i)
theorem spread_next : satB W (.n1 14 v (.n2 8 v2 f g)) i = satB W (.n2 8 v3 (.n1 14 v4 f) (.n1 14 v5 g)) i := satB_congr (by
  simp only [sat_next, sat_and])

theorem nest_glo : satB W (.n1 18 v (.n1 18 v2 f)) i = satB W (.n1 18 v3 f) i := satB_congr (by
  simp only [sat_glo, ← nxtN_add]
  exact ⟨fun h j => by simpa using h j 0, fun h j k => h (j + k)⟩)
theorem nest_fin : satB W (.n1 17 v (.n1 17 v2 f)) i = satB W (.n1 17 v3 f) i := satB_congr (by
  simp only [sat_fin, ← nxtN_add]
  exact ⟨fun ⟨j, k, h⟩ => ⟨j + k, h⟩, fun ⟨j, h⟩ => ⟨j, 0, by simpa using h⟩⟩)
theorem nest_unt : satB W (.n2 15 v f (.n2 15 v2 f g)) i = satB W (.n2 15 v3 f g) i := satB_congr (by
  rw [sat_unt, sat_unt, ← until_twice (b := Sat W g)]
  exact until_congr (fun _ => Iff.rfl) (fun j => sat_unt W v2 f g j) i)
theorem nest_rel : satB W (.n2 16 v f (.n2 16 v2 f g)) i = satB W (.n2 16 v3 f g) i := satB_congr (by
  rw [sat_rel, sat_rel, ← rel_twice (b := Sat W g)]
  exact rel_congr (fun _ => Iff.rfl) (fun j => sat_rel W v2 f g j) i)
theorem nest_fgf : satB W (.n1 17 v (.n1 18 v2 (.n1 17 v3 f))) i = satB W (.n1 18 v4 (.n1 17 v5 f)) i := satB_congr (by
  simp only [sat_fin, sat_glo, ← nxtN_add]
  exact ⟨fun ⟨j, h⟩ k => by
    obtain ⟨m, hm⟩ := h k
    exact ⟨j + m, by rw [show k + (j + m) = j + k + m by omega]; exact hm⟩, fun h => ⟨0, fun k => by simpa using h k⟩⟩)
theorem nest_gfg : satB W (.n1 18 v (.n1 17 v2 (.n1 18 v3 f))) i = satB W (.n1 17 v4 (.n1 18 v5 f)) i := satB_congr (by
  simp only [sat_fin, sat_glo, ← nxtN_add]
  exact ⟨fun h => by simpa using h 0, fun ⟨j, h⟩ k => ⟨j, fun m => by rw [show k + j + m = j + (k + m) by omega]; exact h (k + m)⟩⟩)

/-! Moment by moment. -/
theorem now_unt : satB W (.n2 15 v f g) i = (satB W g i || (satB W f i && satB W (.n2 15 v f g) (nxt W.n W.back i))) := satB_eq (by
  rw [sat_unt, until_iff]
  simp only [Bool.or_eq_true, Bool.and_eq_true, satB_iff, sat_unt])
theorem now_rel : satB W (.n2 16 v f g) i = (satB W g i && (satB W f i || satB W (.n2 16 v f g) (nxt W.n W.back i))) := satB_eq (by
  rw [sat_rel, rel_iff]
  simp only [Bool.or_eq_true, Bool.and_eq_true, satB_iff, sat_rel])
theorem now_fin : satB W (.n1 17 v f) i = (satB W f i || satB W (.n1 17 v f) (nxt W.n W.back i)) := satB_eq (by
  simp only [Bool.or_eq_true, satB_iff, sat_fin]
  exact ⟨fun ⟨j, h⟩ => by
    cases j with
    | zero => exact .inl h
    | succ j => exact .inr ⟨j, h⟩, fun h => by
    rcases h with h | ⟨j, h⟩
    · exact ⟨0, h⟩
    · exact ⟨j + 1, h⟩⟩)
theorem now_glo : satB W (.n1 18 v f) i = (satB W f i && satB W (.n1 18 v f) (nxt W.n W.back i)) := satB_eq (by
  simp only [Bool.and_eq_true, satB_iff, sat_glo]
  exact ⟨fun h => ⟨h 0, fun j => h (j + 1)⟩, fun ⟨h1, h2⟩ j => by
    cases j with
    | zero => exact h1
    | succ j => exact h2 j⟩)
end

/-! The moments that are to come. -/
theorem nxtN_min {n back : Nat} : ∀ j i, min i back ≤ nxtN n back j i
  | 0, i => by show min i back ≤ i; omega
  | j + 1, i => by
    have h := nxtN_min (n := n) (back := back) j (nxt n back i)
    have h2 : min i back ≤ min (nxt n back i) back := by unfold nxt; split <;> omega
    exact Nat.le_trans h2 h
theorem nxtN_up {n back : Nat} : ∀ j i, i + j < n → nxtN n back j i = i + j
  | 0, i, _ => rfl
  | j + 1, i, h => by
    show nxtN n back j (nxt n back i) = _
    have e : nxt n back i = i + 1 := by unfold nxt; rw [if_pos (by omega)]
    rw [e, nxtN_up j (i + 1) (by omega)]
    omega
theorem nxtN_back {n back : Nat} : ∀ j i, i + j = n → 0 < j → nxtN n back j i = back
  | 0, i, _, h => by omega
  | 1, i, h, _ => by show nxt n back i = back; unfold nxt; rw [if_neg (by omega)]
  | j + 2, i, h, _ => by
    show nxtN n back (j + 1) (nxt n back i) = _
    have e : nxt n back i = i + 1 := by unfold nxt; rw [if_pos (by omega)]
    rw [e, nxtN_back (j + 1) (i + 1) (by omega) (by omega)]
theorem nxtN_reach {n back i k : Nat} (hi : i < n) (h1 : min i back ≤ k) (h2 : k < n) (hb : back < n) : ∃ j, nxtN n back j i = k := by
  by_cases h : i ≤ k
  · exact ⟨k - i, by rw [nxtN_up _ _ (by omega)]; omega⟩
  · refine ⟨(n - i) + (k - back), ?_⟩
    rw [nxtN_add, nxtN_back (n - i) i (by omega) (by omega), nxtN_up _ _ (by omega)]
    omega
theorem fin_loop (W : Wd) (v : Int) (f : Tm) (i : Nat) (hi : i < W.n) (hb : W.back < W.n) : satB W (.n1 17 v f) i = true ↔ ∃ k, min i W.back ≤ k ∧ k < W.n ∧ satB W f k = true := by
  simp only [satB_iff, sat_fin]
  exact ⟨fun ⟨j, h⟩ => ⟨_, nxtN_min j i, nxtN_lt hb j i hi, h⟩, fun ⟨k, h1, h2, h⟩ => by
    obtain ⟨j, rfl⟩ := nxtN_reach hi h1 h2 hb
    exact ⟨j, h⟩⟩
theorem glo_loop (W : Wd) (v : Int) (f : Tm) (i : Nat) (hi : i < W.n) (hb : W.back < W.n) : satB W (.n1 18 v f) i = true ↔ ∀ k, min i W.back ≤ k → k < W.n → satB W f k = true := by
  simp only [satB_iff, sat_glo]
  exact ⟨fun h k h1 h2 => by
    obtain ⟨j, rfl⟩ := nxtN_reach hi h1 h2 hb
    exact h j, fun h j => h _ (nxtN_min j i) (nxtN_lt hb j i hi)⟩

end Go.Proofs.YtkkbefhnklpfaaaDoor

namespace Go.Proofs.YtkkbefhnklpfaaaDoor
open Go.RowKit

/-- Does an op that looks ahead have what it waits for? -/
def metB (k : Int) (es : List Int) (tv : List Bool) (i : Nat) : Bool :=
  if k = 17 then !tv.getD i false || tv.getD (i + 1) false
  else if k = 18 then tv.getD i false || !tv.getD (i + 1) false
  else if k = 15 then !tv.getD i false || tv.getD (secAt es i) false
  else if k = 16 then tv.getD i false || !tv.getD (secAt es i) false
  else true

/-- Which of the first ops that look ahead have it, as bits. -/
def meUp (l : List Op2) (es : List Int) (tv : List Bool) : Nat → Nat
  | 0 => 0
  | i + 1 => if aheadB (l.getD i (0, 0)).1 && metB (l.getD i (0, 0)).1 es tv i then meUp l es tv i ||| 2 ^ cntA (l.take i) else meUp l es tv i

theorem meUp_lt (l : List Op2) (es : List Int) (tv : List Bool) : ∀ i, i ≤ l.length → meUp l es tv i < 2 ^ cntA (l.take i)
  | 0, _ => Nat.two_pow_pos _
  | i + 1, h => by
    have ih := meUp_lt l es tv i (by omega)
    have hc := cntA_take l (show i < l.length by omega)
    have hg : l.getD i (0, 0) = l[i]'(by omega) := by simp [List.getD, List.getElem?_eq_getElem (show i < l.length by omega)]
    unfold meUp
    rw [hg, hc]
    split
    · rename_i e
      simp only [Bool.and_eq_true] at e
      rw [if_pos e.1]
      exact Nat.or_lt_two_pow (Nat.lt_of_lt_of_le ih (Nat.pow_le_pow_right (by omega) (by omega))) (Nat.pow_lt_pow_right (by omega) (by omega))
    · exact Nat.lt_of_lt_of_le ih (Nat.pow_le_pow_right (by omega) (by omega))

set_option maxRecDepth 100000 in
set_option maxHeartbeats 8000000 in
theorem meets_any (v : Value) (l : List Op2) (t : Tm) (vl : Value) (L : List Bool) (c : Nat) (w : World) (h : Ops w v l) (ht : Tab w) (hf : IsF l (L.length : Int) t) (hL : Bools w vl L) (hc : c < 2 ^ cntA l) :
    Calls Tryd.prog 43 #[v, vl, .int .i64 (c : Int)] w fun e w' => e = .returned (.tuple #[.int .i64 (meUp l (t.ends 0) (tvT L c t 0) l.length : Int), .int .i64 0]) ∧ Ext w w' := by
  have hen := ends_term t hf.ok hf.small
  rw [hf.flat] at hen
  have HTR := Lib.hid (truths_any v l t vl L c w h ht hf hL hc)
  have HEN := Lib.hid fun wx (hx : Ext w wx) => by have H := ends_any v l wx (h.ext hx) (ht.ext hx); rw [hen] at H; exact H
  have hl60 : l.length ≤ 60 := by rw [← hf.flat, Tm.flat_len]; exact hf.small
  have hpos : 0 < l.length := by rw [← hf.flat, Tm.flat_len]; exact t.size_pos
  have htl : (tvT L c t 0).length = l.length := by rw [tvT_len, ← Tm.flat_len, hf.flat]
  have hel : (t.ends 0).length = l.length := by rw [Tm.ends_len, ← Tm.flat_len, hf.flat]
  have HTV := Lib.hid fun i k v (hi : l[i]? = some (k, v)) => by have := tv_at L c t hf.ok i k v (by rw [hf.flat]; exact hi); rw [hf.flat] at this; exact this
  obtain ⟨a, cap, rfl, hr⟩ := h
  obtain ⟨al, cl, rfl, hrl⟩ := hL
  have HR := Lib.hid hr
  have HF := Lib.hid hf
  have hc6 := hf.cnt
  generalize t.ends 0 = es at *
  generalize tvT L c t 0 = tv at *
  have HTL := Lib.hid htl
  have HEL := Lib.hid hel
  clear hen hf hr hrl ht htl hel hc
  go_enter Tryd.func43, Tryd.ntmps43
  go_wp2_with fail
  refine HTR.out.mono ?_
  rintro e w1 ⟨D, rfl, hot, hE1⟩
  have HOT := Lib.hid hot
  have HE1 := Lib.hid hE1
  clear hot hE1 HTR
  go_wp2_with fail
  refine (HEN.out _ HE1.out).mono ?_
  rintro e w2 ⟨hE2, v2, rfl, hown2⟩
  obtain ⟨ae, ce, rfl, hre⟩ := hown2.row
  have HRE := Lib.hid hre
  have HE2 := Lib.hid (HE1.out.trans hE2)
  have HOT2 := Lib.hid (own_ext HOT.out hE2)
  clear hown2 hre hE2 HEN HE1 HOT
  go_wp2_with fail
  go_loopg [12, 13, 34] l.length (fun m y z x wr => ∃ i : Nat, m + i = l.length ∧ x = .int .i64 (i : Int) ∧ y = .int .i64 (meUp l es tv i : Int) ∧ z = .int .i64 (cntA (l.take i) : Int) ∧ Ext w2 wr)
  case atStart => exact ⟨0, by omega, by go_num, rfl, by simp [cntA], Ext.refl _⟩
  case round =>
    obtain ⟨i, hmi, rfl, rfl, rfl, hE⟩ := hrel
    have HMI := Lib.hid hmi
    have HE := Lib.hid hE
    by_cases hi : i < l.length
    · obtain ⟨b, off, hb, hcc⟩ := (HR.out.ext (HE2.out.trans hE)).ops
      obtain rfl := hb hpos
      obtain ⟨k1, k2⟩ := hcc i hi
      have hg : l.getD i (0, 0) = l[i] := by simp [List.getD, List.getElem?_eq_getElem hi]
      have hmu : meUp l es tv (i + 1) = if aheadB l[i].1 && metB l[i].1 es tv i then meUp l es tv i ||| 2 ^ cntA (l.take i) else meUp l es tv i := by rw [meUp, hg]
      have hcn := cntA_take l hi
      have hlt := meUp_lt l es tv i (by omega)
      have hle := cntA_take_le l i
      have hp6 : 2 ^ cntA (l.take i) ≤ 2 ^ 6 := Nat.pow_le_pow_right (by omega) (by omega)
      have htva := HTV.out i l[i].1 l[i].2 (List.getElem?_eq_getElem hi)
      obtain ⟨hf1, hf2, -, -⟩ := HF.out.fit l[i] (by simp)
      have hor := i64_or_nat (meUp l es tv i) (2 ^ cntA (l.take i)) (by omega) (by omega)
      have hpe : ((2 ^ cntA (l.take i) : Nat) : Int) = (2 : Int) ^ cntA (l.take i) := by push_cast; rfl
      have hw0 : IntKind.i64.wrap ((2 : Int) ^ cntA (l.take i)) = ((2 ^ cntA (l.take i) : Nat) : Int) := by rw [← hpe]; exact IntWalk.i64_in _ (by omega)
      have HAF := Lib.hid fun wx => ah_fn l[i].1 wx
      have HMU := Lib.hid hmu
      have HCN := Lib.hid hcn
      have HTA := Lib.hid htva
      have hiI : (i : Int) < (l.length : Int) := by omega
      have hi0 : (0 : Int) ≤ (i : Int) := by omega
      have hti : tv[i]? = some (tv.getD i false) := getD_some (by rw [HTL.out]; exact hi)
      have cT := own_bool (own_ext HOT2.out hE) hti
      have HOTR := Lib.hid (own_ext HOT2.out hE)
      have HRER := Lib.hid (HRE.out.ext hE)
      clear hcc hb hmu hcn htva hlt hp6 hpe hti hE hmi hg
      generalize meUp l es tv i = me at *
      generalize hme1 : meUp l es tv (i + 1) = me1 at *
      have HME1 := Lib.hid hme1
      clear hme1
      generalize hc0 : cntA (l.take i) = cn at *
      generalize 2 ^ cn = pc at *
      have HDW := Lib.hid fun (o : Op2) (x : Addr) (y : Value) (hc : wr.cell? x = some y) => cell_later (ext_al (Ext.refl wr) (Obj.cells #[.int .i64 o.1, .int .i64 o.2] 35)) hc
      replace cT := HDW.out l[i] _ _ cT
      generalize l[i] = o at *
      obtain ⟨k, u⟩ := o
      simp only at k1 k2 hf1 hf2 HAF HMU HCN HTA
      have hx := ext_al HE.out (Obj.cells #[.int .i64 k, .int .i64 u] 35)
      have HX := Lib.hid hx
      clear hx
      go_wp2_with fail
      refine (HAF.out _).mono ?_
      rintro e wq ⟨rfl, rfl⟩
      cases hah : aheadB k
      · have hmu := HMU.out
        have hcn := HCN.out
        rw [hah] at hmu hcn
        have HM2 := Lib.hid (show me1 = me by simpa using hmu)
        have HC2 := Lib.hid (show cntA (l.take (i + 1)) = cn by simpa using hcn)
        clear hmu hcn hah
        go_wp2_with fail
        go_roundg (gk - 1)
        case measure => have := HMI.out; omega
        case rel => exact ⟨i + 1, by have := HMI.out; omega, by go_num, by rw [HME1.out, HM2.out], by rw [HC2.out], HX.out⟩
      · have hmu := HMU.out
        have hcn := HCN.out
        rw [hah] at hmu hcn
        have HC2 := Lib.hid (show cntA (l.take (i + 1)) = cn + 1 by simpa using hcn)
        have hk14 : 14 ≤ k := by have := hah; unfold aheadB at this; simp only [decide_eq_true_eq] at this; exact this.1
        have hcn6 : cn ≤ 6 := by omega
        obtain ⟨b, hb⟩ : ∃ b, tv.getD i false = b := ⟨_, rfl⟩
        rw [hb] at cT
        clear hcn
        rcases (show k = 14 ∨ k = 15 ∨ k = 16 ∨ k = 17 ∨ k = 18 by omega) with rfl | rfl | rfl | rfl | rfl
        · -- Next
          have HM2 := Lib.hid (show me1 = me ||| pc by simpa [metB] using hmu)
          clear hmu hah
          go_wp2_with fail
          go_roundg (gk - 1)
          case measure => have := HMI.out; omega
          case rel => exact ⟨i + 1, by have := HMI.out; omega, by go_num, by rw [HME1.out, HM2.out], by rw [HC2.out]; go_num, HX.out⟩
        · -- 15
          obtain ⟨ht1, ht2, ht3⟩ := HTA.out.two rfl
          obtain ⟨s, hs⟩ : ∃ s, secAt es i = s := ⟨_, rfl⟩
          rw [hs] at ht1 ht2 ht3
          obtain ⟨b2, hb2⟩ : ∃ b, tv.getD s false = b := ⟨_, rfl⟩
          have hm : metB 15 es tv i = (!b || b2) := by rw [metB, if_neg (by decide), if_neg (by decide), if_pos rfl, hb, hs, hb2]
          rw [hm] at hmu
          have hts := getD_some (l := tv) (i := s) (by rw [HTL.out]; exact ht3)
          rw [hb2] at hts
          have cT2 := HDW.out (15, u) _ _ (own_bool HOTR.out hts)
          obtain ⟨be, oe, he1, he2⟩ := row_ints HRER.out
          obtain rfl := he1 (by rw [HEL.out]; exact hpos)
          have cE := HDW.out (15, u) _ _ (he2 _ _ ht1)
          have hsI : (s : Int) < (l.length : Int) := by omega
          have hs0 : (0 : Int) ≤ (s : Int) := by omega
          have hiE : (i : Int) + 1 < (es.length : Int) := by have := HEL.out; omega
          have hi10 : (0 : Int) ≤ (i : Int) + 1 := by omega
          have hit : ((i : Int) + 1).toNat = i + 1 := by omega
          clear hm hts he1 he2 ht1 ht2 ht3 hs hb hb2 hah
          cases b <;> cases b2
          all_goals
            first
              | have HM2 := Lib.hid (show me1 = me ||| pc from hmu)
              | have HM2 := Lib.hid (show me1 = me from hmu)
            clear hmu
            go_wp2_with fail
            go_roundg (gk - 1)
            case measure => have := HMI.out; omega
            case rel => exact ⟨i + 1, by have := HMI.out; omega, by go_num, by rw [HME1.out, HM2.out], by rw [HC2.out]; go_num, HX.out⟩
        · -- 16
          obtain ⟨ht1, ht2, ht3⟩ := HTA.out.two rfl
          obtain ⟨s, hs⟩ : ∃ s, secAt es i = s := ⟨_, rfl⟩
          rw [hs] at ht1 ht2 ht3
          obtain ⟨b2, hb2⟩ : ∃ b, tv.getD s false = b := ⟨_, rfl⟩
          have hm : metB 16 es tv i = (b || !b2) := by rw [metB, if_neg (by decide), if_neg (by decide), if_neg (by decide), if_pos rfl, hb, hs, hb2]
          rw [hm] at hmu
          have hts := getD_some (l := tv) (i := s) (by rw [HTL.out]; exact ht3)
          rw [hb2] at hts
          have cT2 := HDW.out (16, u) _ _ (own_bool HOTR.out hts)
          obtain ⟨be, oe, he1, he2⟩ := row_ints HRER.out
          obtain rfl := he1 (by rw [HEL.out]; exact hpos)
          have cE := HDW.out (16, u) _ _ (he2 _ _ ht1)
          have hsI : (s : Int) < (l.length : Int) := by omega
          have hs0 : (0 : Int) ≤ (s : Int) := by omega
          have hiE : (i : Int) + 1 < (es.length : Int) := by have := HEL.out; omega
          have hi10 : (0 : Int) ≤ (i : Int) + 1 := by omega
          have hit : ((i : Int) + 1).toNat = i + 1 := by omega
          clear hm hts he1 he2 ht1 ht2 ht3 hs hb hb2 hah
          cases b <;> cases b2
          all_goals
            first
              | have HM2 := Lib.hid (show me1 = me ||| pc from hmu)
              | have HM2 := Lib.hid (show me1 = me from hmu)
            clear hmu
            go_wp2_with fail
            go_roundg (gk - 1)
            case measure => have := HMI.out; omega
            case rel => exact ⟨i + 1, by have := HMI.out; omega, by go_num, by rw [HME1.out, HM2.out], by rw [HC2.out]; go_num, HX.out⟩
        · -- 17
          have hone := HTA.out.one (.inl rfl)
          obtain ⟨b1, hb1⟩ : ∃ b, tv.getD (i + 1) false = b := ⟨_, rfl⟩
          have hm : metB 17 es tv i = (!b || b1) := by rw [metB, if_pos rfl, hb, hb1]
          rw [hm] at hmu
          have hts := getD_some (l := tv) (i := i + 1) (by rw [HTL.out]; exact hone)
          rw [hb1] at hts
          have cT2 := HDW.out (17, u) _ _ (own_bool HOTR.out hts)
          have hiE : (i : Int) + 1 < (l.length : Int) := by omega
          have hi10 : (0 : Int) ≤ (i : Int) + 1 := by omega
          have hit : ((i : Int) + 1).toNat = i + 1 := by omega
          clear hm hts hone hb hb1 hah
          cases b <;> cases b1
          all_goals
            first
              | have HM2 := Lib.hid (show me1 = me ||| pc from hmu)
              | have HM2 := Lib.hid (show me1 = me from hmu)
            clear hmu
            go_wp2_with fail
            go_roundg (gk - 1)
            case measure => have := HMI.out; omega
            case rel => exact ⟨i + 1, by have := HMI.out; omega, by go_num, by rw [HME1.out, HM2.out], by rw [HC2.out]; go_num, HX.out⟩
        · -- 18
          have hone := HTA.out.one (.inl rfl)
          obtain ⟨b1, hb1⟩ : ∃ b, tv.getD (i + 1) false = b := ⟨_, rfl⟩
          have hm : metB 18 es tv i = (b || !b1) := by rw [metB, if_neg (by decide), if_pos rfl, hb, hb1]
          rw [hm] at hmu
          have hts := getD_some (l := tv) (i := i + 1) (by rw [HTL.out]; exact hone)
          rw [hb1] at hts
          have cT2 := HDW.out (18, u) _ _ (own_bool HOTR.out hts)
          have hiE : (i : Int) + 1 < (l.length : Int) := by omega
          have hi10 : (0 : Int) ≤ (i : Int) + 1 := by omega
          have hit : ((i : Int) + 1).toNat = i + 1 := by omega
          clear hm hts hone hb hb1 hah
          cases b <;> cases b1
          all_goals
            first
              | have HM2 := Lib.hid (show me1 = me ||| pc from hmu)
              | have HM2 := Lib.hid (show me1 = me from hmu)
            clear hmu
            go_wp2_with fail
            go_roundg (gk - 1)
            case measure => have := HMI.out; omega
            case rel => exact ⟨i + 1, by have := HMI.out; omega, by go_num, by rw [HME1.out, HM2.out], by rw [HC2.out]; go_num, HX.out⟩
    · obtain rfl : i = l.length := by omega
      have hiI : ¬ (l.length : Int) < (l.length : Int) := by omega
      have HEW := Lib.hid (HE2.out.trans hE)
      clear hE hmi
      generalize hml : meUp l es tv l.length = me at *
      have HML := Lib.hid hml
      clear hml
      go_wp2
      go_ret2
      exact ⟨by rw [HML.out]; rfl, HEW.out⟩

end Go.Proofs.YtkkbefhnklpfaaaDoor

namespace Go.Proofs.YtkkbefhnklpfaaaDoor

/-- Does an op that looks ahead keep its law, from one moment to the next? -/
def keepB (k : Int) (es : List Int) (now next : List Bool) (i : Nat) : Bool :=
  if k = 14 then now.getD i false == next.getD (i + 1) false
  else if k = 17 then now.getD i false == (now.getD (i + 1) false || next.getD i false)
  else if k = 18 then now.getD i false == (now.getD (i + 1) false && next.getD i false)
  else if k = 15 then now.getD i false == (now.getD (secAt es i) false || (now.getD (i + 1) false && next.getD i false))
  else now.getD i false == (now.getD (secAt es i) false && (now.getD (i + 1) false || next.getD i false))

/-- All of the first ones do. -/
def folB (l : List Op2) (es : List Int) (now next : List Bool) : Nat → Bool
  | 0 => true
  | i + 1 => folB l es now next i && (!aheadB (l.getD i (0, 0)).1 || keepB (l.getD i (0, 0)).1 es now next i)
theorem folB_iff (l : List Op2) (es : List Int) (now next : List Bool) : ∀ m, folB l es now next m = true ↔ ∀ p, p < m → aheadB (l.getD p (0, 0)).1 = true → keepB (l.getD p (0, 0)).1 es now next p = true
  | 0 => by simp [folB]
  | m + 1 => by
    rw [folB, Bool.and_eq_true, folB_iff l es now next m, Bool.or_eq_true, Bool.not_eq_true']
    constructor
    · rintro ⟨h1, h2⟩ p hp ha
      by_cases e : p = m
      · subst e
        rcases h2 with h2 | h2
        · rw [h2] at ha; cases ha
        · exact h2
      · exact h1 p (by omega) ha
    · intro h
      refine ⟨fun p hp => h p (by omega), ?_⟩
      cases ha : aheadB (l.getD m (0, 0)).1
      · exact .inl rfl
      · exact .inr (h m (by omega) ha)

section
variable {n back : Nat} {a b r : Nat → Bool}
theorem until_fair (hb : back < n) (hr : ∀ i, i < n → r i = (b i || (a i && r (nxt n back i)))) (hm : ∃ i, back ≤ i ∧ i < n ∧ (!r i || b i) = true) : ∀ i, i < n → (r i = true ↔ UntilP n back (fun j => a j = true) (fun j => b j = true) i) := by
  intro i hi
  constructor
  · intro h
    apply Classical.byContradiction
    intro hu
    have key : ∀ j, r (nxtN n back j i) = true ∧ ¬ UntilP n back (fun j => a j = true) (fun j => b j = true) (nxtN n back j i) := by
      intro j
      induction j with
      | zero => exact ⟨h, hu⟩
      | succ j ih =>
        obtain ⟨h1, h2⟩ := ih
        have e : nxtN n back (j + 1) i = nxt n back (nxtN n back j i) := by rw [nxtN_add]; rfl
        have hx := nxtN_lt hb j i hi
        rw [e]
        generalize nxtN n back j i = x at *
        rw [until_iff] at h2
        rw [hr x hx] at h1
        simp only [Bool.or_eq_true, Bool.and_eq_true] at h1
        rcases h1 with h1 | ⟨h1, h3⟩
        · exact absurd (.inl h1) h2
        · exact ⟨h3, fun h4 => h2 (.inr ⟨h1, h4⟩)⟩
    obtain ⟨i0, h0, h1, h2⟩ := hm
    obtain ⟨j, hj⟩ := nxtN_reach hi (k := i0) (by omega) h1 hb
    obtain ⟨k1, k2⟩ := key j
    rw [hj] at k1 k2
    rw [k1] at h2
    exact k2 ⟨0, (show b i0 = true by simpa using h2), fun m hm => by omega⟩
  · rintro ⟨j, h1, h2⟩
    induction j generalizing i with
    | zero => rw [hr i hi]; rw [show b i = true from h1]; rfl
    | succ j ih =>
      have h3 := ih (nxt n back i) (nxt_lt hb) h1 fun m hm => h2 (m + 1) (by omega)
      have h4 : a i = true := h2 0 (by omega)
      rw [hr i hi, h3, h4]; simp
theorem rel_fair (hb : back < n) (hr : ∀ i, i < n → r i = (b i && (a i || r (nxt n back i)))) (hm : ∃ i, back ≤ i ∧ i < n ∧ (r i || !b i) = true) : ∀ i, i < n → (r i = true ↔ RelP n back (fun j => a j = true) (fun j => b j = true) i) := by
  intro i hi
  have h := until_fair (a := fun j => !a j) (b := fun j => !b j) (r := fun j => !r j) hb (fun i hi => by
    show (!r i) = _
    rw [hr i hi]; simp [Bool.not_and, Bool.not_or]) (by
    obtain ⟨i, h1, h2, h3⟩ := hm
    exact ⟨i, h1, h2, by simpa using h3⟩) i hi
  rw [rel_not, ← not_congr (h.trans (until_congr (fun j => by simp) (fun j => by simp) i))]
  simp
end

/-- The truths of all terms along a word, with claims. -/
def tvW (W : Wd) (c : Nat → Nat) (t : Tm) (i : Nat) : List Bool := tvT (W.ls.getD i []) (c i) t 0

theorem getD_of {l : List Bool} {i : Nat} {b : Bool} (h : l[i]? = some b) : l.getD i false = b := by simp [List.getD, h]
theorem getD_op {l : List Op2} {i : Nat} {o : Op2} (h : l[i]? = some o) : l.getD i (0, 0) = o := by simp [List.getD, h]

section
variable {W : Wd} {t : Tm} (ht : t.ok) {props : Int} (hfit : ∀ o ∈ t.flat, FitOp props o) {c : Nat → Nat}
include ht hfit
/-- With the claims of what holds the truths are what holds. -/
theorem claims_sat (hc : ∀ i, i < W.n → ∀ p s, (subs t)[p]? = some s → aheadB s.kd = true → (c i).testBit (cntA (t.flat.take p)) = satB W s i) :
    ∀ m p, t.size ≤ p + m → ∀ s, (subs t)[p]? = some s → ∀ i, i < W.n → (tvW W c t i).getD p false = satB W s i := by
  intro m
  induction m with
  | zero =>
    intro p hp s hs
    have := (List.getElem?_eq_some_iff.1 hs).1
    rw [subs_len] at this
    omega
  | succ m ih =>
    intro p hp s hs i hi
    have hps : p < t.size := by have := (List.getElem?_eq_some_iff.1 hs).1; rwa [subs_len] at this
    obtain ⟨s', hS⟩ := subs_at t ht p hps
    obtain rfl : s = s' := by have := hS.sub; rw [hs] at this; exact Option.some.inj this
    have hf := hfit _ (List.mem_of_getElem? hS.op)
    have hV : TvAt (W.ls.getD i []) (c i) t.flat (t.ends 0) (tvW W c t i) p s.kd s.vl := tv_at _ _ t ht p _ _ hS.op
    cases hah : aheadB s.kd with
    | true => rw [getD_of (hV.ah hah), hc i hi p s hs hah]
    | false =>
      rcases tm_cases hS.ok hf with ⟨v, rfl, _, _⟩ | rfl | rfl | ⟨a, rfl⟩ | ⟨a, rfl⟩ | ⟨a, rfl⟩ | ⟨a, rfl⟩ | ⟨a, b, rfl⟩ | ⟨a, b, rfl⟩ | ⟨a, b, rfl⟩ | ⟨a, b, rfl⟩
      · rw [getD_of (hV.prop rfl), satB_prop]; rfl
      · rw [getD_of (hV.yes rfl), satB_yes]
      · rw [getD_of (hV.no rfl), satB_no]
      · rw [getD_of (hV.not rfl), satB_not, ih (p + 1) (by omega) a (hS.one _ _ _ rfl) i hi]
      · cases hah
      · cases hah
      · cases hah
      · obtain ⟨g1, -, g3, g4⟩ := hS.two _ _ _ _ rfl
        rw [getD_of (hV.and rfl), satB_and, ih (p + 1) (by omega) a g1 i hi, ih _ (by omega) b g4 i hi]
      · obtain ⟨g1, -, g3, g4⟩ := hS.two _ _ _ _ rfl
        rw [getD_of (hV.or rfl), satB_or, ih (p + 1) (by omega) a g1 i hi, ih _ (by omega) b g4 i hi]
      · cases hah
      · cases hah
end

section
variable {W : Wd} (hb : W.back < W.n) {t : Tm} (ht : t.ok) {props : Int} (hfit : ∀ o ∈ t.flat, FitOp props o) {c : Nat → Nat}
include hb ht hfit

/-- A line that keeps all laws, and in which nothing waits for ever, tells what holds. -/
theorem line_sat (hk : ∀ i, i < W.n → ∀ p, p < t.size → aheadB (t.flat.getD p (0, 0)).1 = true → keepB (t.flat.getD p (0, 0)).1 (t.ends 0) (tvW W c t i) (tvW W c t (nxt W.n W.back i)) p = true)
    (hm : ∀ p, p < t.size → aheadB (t.flat.getD p (0, 0)).1 = true → ∃ i, W.back ≤ i ∧ i < W.n ∧ metB (t.flat.getD p (0, 0)).1 (t.ends 0) (tvW W c t i) p = true) :
    ∀ m p, t.size ≤ p + m → ∀ s, (subs t)[p]? = some s → ∀ i, i < W.n → (tvW W c t i).getD p false = satB W s i := by
  intro m
  induction m with
  | zero =>
    intro p hp s hs
    have := (List.getElem?_eq_some_iff.1 hs).1
    rw [subs_len] at this
    omega
  | succ m ih =>
    intro p hp s hs i hi
    have hps : p < t.size := by have := (List.getElem?_eq_some_iff.1 hs).1; rwa [subs_len] at this
    obtain ⟨s', hS⟩ := subs_at t ht p hps
    obtain rfl : s = s' := by have := hS.sub; rw [hs] at this; exact Option.some.inj this
    have hf := hfit _ (List.mem_of_getElem? hS.op)
    have hop := getD_op hS.op
    have hV : ∀ i, TvAt (W.ls.getD i []) (c i) t.flat (t.ends 0) (tvW W c t i) p s.kd s.vl := fun i => tv_at _ _ t ht p _ _ hS.op
    have hk' := fun i hi => hk i hi p hps
    have hm' := hm p hps
    rw [hop] at hm'
    simp only [hop] at hk'
    rcases tm_cases hS.ok hf with ⟨v, rfl, _, _⟩ | rfl | rfl | ⟨a, rfl⟩ | ⟨a, rfl⟩ | ⟨a, rfl⟩ | ⟨a, rfl⟩ | ⟨a, b, rfl⟩ | ⟨a, b, rfl⟩ | ⟨a, b, rfl⟩ | ⟨a, b, rfl⟩
    · rw [getD_of ((hV i).prop rfl), satB_prop]; rfl
    · rw [getD_of ((hV i).yes rfl), satB_yes]
    · rw [getD_of ((hV i).no rfl), satB_no]
    · rw [getD_of ((hV i).not rfl), satB_not, ih (p + 1) (by omega) a (hS.one _ _ _ rfl) i hi]
    · have h := hk' i hi rfl
      have h1 := ih (p + 1) (by omega) a (hS.one _ _ _ rfl) _ (nxt_lt (i := i) hb)
      simp only [Tm.kd, keepB, if_true, beq_iff_eq] at h
      rw [h, h1, satB_next]
    · have h1 := ih (p + 1) (by omega) a (hS.one _ _ _ rfl)
      have := until_fair (r := fun i => (tvW W c t i).getD p false) (a := fun _ => true) (b := satB W a) hb (fun i hi => by
        have h := hk' i hi rfl
        simp only [Tm.kd, keepB, show ¬ (17 : Int) = 14 by decide, if_true, if_false, beq_iff_eq] at h
        rw [h1 i hi] at h
        simpa using h) (by
        obtain ⟨i, e1, e2, e3⟩ := hm' rfl
        refine ⟨i, e1, e2, ?_⟩
        simp only [Tm.kd, metB, if_true] at e3
        rw [h1 i e2] at e3
        exact e3) i hi
      exact Bool.eq_iff_iff.2 (this.trans (satB_fin W 0 a i).symm)
    · have h1 := ih (p + 1) (by omega) a (hS.one _ _ _ rfl)
      have := rel_fair (r := fun i => (tvW W c t i).getD p false) (a := fun _ => false) (b := satB W a) hb (fun i hi => by
        have h := hk' i hi rfl
        simp only [Tm.kd, keepB, show ¬ (18 : Int) = 14 by decide, show ¬ (18 : Int) = 17 by decide, if_true, if_false, beq_iff_eq] at h
        rw [h1 i hi] at h
        simpa using h) (by
        obtain ⟨i, e1, e2, e3⟩ := hm' rfl
        refine ⟨i, e1, e2, ?_⟩
        simp only [Tm.kd, metB, show ¬ (18 : Int) = 17 by decide, if_true, if_false] at e3
        rw [h1 i e2] at e3
        exact e3) i hi
      exact Bool.eq_iff_iff.2 (this.trans (satB_glo W 0 a i).symm)
    · obtain ⟨g1, -, g3, g4⟩ := hS.two _ _ _ _ rfl
      rw [getD_of ((hV i).and rfl), satB_and, ih (p + 1) (by omega) a g1 i hi, ih _ (by omega) b g4 i hi]
    · obtain ⟨g1, -, g3, g4⟩ := hS.two _ _ _ _ rfl
      rw [getD_of ((hV i).or rfl), satB_or, ih (p + 1) (by omega) a g1 i hi, ih _ (by omega) b g4 i hi]
    · obtain ⟨g1, -, g3, g4⟩ := hS.two _ _ _ _ rfl
      have h1 := ih (p + 1) (by omega) a g1
      have h2 := ih _ (by omega) b g4
      have := until_fair (r := fun i => (tvW W c t i).getD p false) (a := satB W a) (b := satB W b) hb (fun i hi => by
        have h := hk' i hi rfl
        simp only [Tm.kd, keepB, show ¬ (15 : Int) = 14 by decide, show ¬ (15 : Int) = 17 by decide, show ¬ (15 : Int) = 18 by decide, if_true, if_false, beq_iff_eq] at h
        rw [h1 i hi, h2 i hi] at h
        exact h) (by
        obtain ⟨i, e1, e2, e3⟩ := hm' rfl
        refine ⟨i, e1, e2, ?_⟩
        simp only [Tm.kd, metB, show ¬ (15 : Int) = 17 by decide, show ¬ (15 : Int) = 18 by decide, if_true, if_false] at e3
        rw [h2 i e2] at e3
        exact e3) i hi
      exact Bool.eq_iff_iff.2 (this.trans (satB_unt W 0 a b i).symm)
    · obtain ⟨g1, -, g3, g4⟩ := hS.two _ _ _ _ rfl
      have h1 := ih (p + 1) (by omega) a g1
      have h2 := ih _ (by omega) b g4
      have := rel_fair (r := fun i => (tvW W c t i).getD p false) (a := satB W a) (b := satB W b) hb (fun i hi => by
        have h := hk' i hi rfl
        simp only [Tm.kd, keepB, show ¬ (16 : Int) = 14 by decide, show ¬ (16 : Int) = 17 by decide, show ¬ (16 : Int) = 18 by decide, show ¬ (16 : Int) = 15 by decide, if_false, beq_iff_eq] at h
        rw [h1 i hi, h2 i hi] at h
        exact h) (by
        obtain ⟨i, e1, e2, e3⟩ := hm' rfl
        refine ⟨i, e1, e2, ?_⟩
        simp only [Tm.kd, metB, show ¬ (16 : Int) = 17 by decide, show ¬ (16 : Int) = 18 by decide, show ¬ (16 : Int) = 15 by decide, if_true, if_false] at e3
        rw [h2 i e2] at e3
        exact e3) i hi
      exact Bool.eq_iff_iff.2 (this.trans (satB_rel W 0 a b i).symm)

/-- And it is a line. -/
theorem sat_keeps (hs : ∀ p s, (subs t)[p]? = some s → ∀ i, i < W.n → (tvW W c t i).getD p false = satB W s i) (i : Nat) (hi : i < W.n) (p : Nat) (hp : p < t.size) (ha : aheadB (t.flat.getD p (0, 0)).1 = true) :
    keepB (t.flat.getD p (0, 0)).1 (t.ends 0) (tvW W c t i) (tvW W c t (nxt W.n W.back i)) p = true := by
  obtain ⟨s, hS⟩ := subs_at t ht p hp
  have hf := hfit _ (List.mem_of_getElem? hS.op)
  have hx := nxt_lt (i := i) hb
  rw [getD_op hS.op] at ha ⊢
  have h0 := hs p s hS.sub
  rcases tm_cases hS.ok hf with ⟨v, rfl, _, _⟩ | rfl | rfl | ⟨a, rfl⟩ | ⟨a, rfl⟩ | ⟨a, rfl⟩ | ⟨a, rfl⟩ | ⟨a, b, rfl⟩ | ⟨a, b, rfl⟩ | ⟨a, b, rfl⟩ | ⟨a, b, rfl⟩
  · cases ha
  · cases ha
  · cases ha
  · cases ha
  · have h1 := hs _ _ (hS.one _ _ _ rfl)
    simp only [Tm.kd, keepB, if_true, beq_iff_eq]
    rw [h0 i hi, h1 _ hx, satB_next]
  · have h1 := hs _ _ (hS.one _ _ _ rfl)
    simp only [Tm.kd, keepB, show ¬ (17 : Int) = 14 by decide, if_true, if_false, beq_iff_eq]
    rw [h0 i hi, h1 _ hi, h0 _ hx, now_fin]
  · have h1 := hs _ _ (hS.one _ _ _ rfl)
    simp only [Tm.kd, keepB, show ¬ (18 : Int) = 14 by decide, show ¬ (18 : Int) = 17 by decide, if_true, if_false, beq_iff_eq]
    rw [h0 i hi, h1 _ hi, h0 _ hx, now_glo]
  · cases ha
  · cases ha
  · obtain ⟨g1, -, g3, g4⟩ := hS.two _ _ _ _ rfl
    simp only [Tm.kd, keepB, show ¬ (15 : Int) = 14 by decide, show ¬ (15 : Int) = 17 by decide, show ¬ (15 : Int) = 18 by decide, if_true, if_false, beq_iff_eq]
    rw [h0 i hi, hs _ _ g1 _ hi, hs _ _ g4 _ hi, h0 _ hx, now_unt]
  · obtain ⟨g1, -, g3, g4⟩ := hS.two _ _ _ _ rfl
    simp only [Tm.kd, keepB, show ¬ (16 : Int) = 14 by decide, show ¬ (16 : Int) = 17 by decide, show ¬ (16 : Int) = 18 by decide, show ¬ (16 : Int) = 15 by decide, if_false, beq_iff_eq]
    rw [h0 i hi, hs _ _ g1 _ hi, hs _ _ g4 _ hi, h0 _ hx, now_rel]

theorem sat_meets (hs : ∀ p s, (subs t)[p]? = some s → ∀ i, i < W.n → (tvW W c t i).getD p false = satB W s i) (p : Nat) (hp : p < t.size) (ha : aheadB (t.flat.getD p (0, 0)).1 = true) :
    ∃ i, W.back ≤ i ∧ i < W.n ∧ metB (t.flat.getD p (0, 0)).1 (t.ends 0) (tvW W c t i) p = true := by
  obtain ⟨s, hS⟩ := subs_at t ht p hp
  have hf := hfit _ (List.mem_of_getElem? hS.op)
  rw [getD_op hS.op] at ha ⊢
  have h0 := hs p s hS.sub
  have hin : ∀ j, W.back ≤ nxtN W.n W.back j W.back ∧ nxtN W.n W.back j W.back < W.n := fun j => ⟨by have := nxtN_min (n := W.n) (back := W.back) j W.back; omega, nxtN_lt hb j _ hb⟩
  rcases tm_cases hS.ok hf with ⟨v, rfl, _, _⟩ | rfl | rfl | ⟨a, rfl⟩ | ⟨a, rfl⟩ | ⟨a, rfl⟩ | ⟨a, rfl⟩ | ⟨a, b, rfl⟩ | ⟨a, b, rfl⟩ | ⟨a, b, rfl⟩ | ⟨a, b, rfl⟩
  · cases ha
  · cases ha
  · cases ha
  · cases ha
  · exact ⟨W.back, Nat.le_refl _, hb, rfl⟩
  · have h1 := hs _ _ (hS.one _ _ _ rfl)
    simp only [Tm.kd, metB, if_true]
    cases hx : satB W (.n1 17 0 a) W.back
    · exact ⟨W.back, Nat.le_refl _, hb, by rw [h0 _ hb, hx]; rfl⟩
    · rw [satB_iff, sat_fin] at hx
      obtain ⟨j, hj⟩ := hx
      exact ⟨_, (hin j).1, (hin j).2, by rw [h1 _ (hin j).2, satB_iff.2 hj]; simp⟩
  · have h1 := hs _ _ (hS.one _ _ _ rfl)
    simp only [Tm.kd, metB, show ¬ (18 : Int) = 17 by decide, if_true, if_false]
    cases hx : satB W (.n1 18 0 a) W.back
    · have hx' : ¬ Sat W (.n1 18 0 a) W.back := fun h => by rw [satB_iff.2 h] at hx; cases hx
      rw [sat_glo] at hx'
      obtain ⟨j, hj⟩ := Classical.not_forall.1 hx'
      exact ⟨_, (hin j).1, (hin j).2, by
        have e : satB W a (nxtN W.n W.back j W.back) = false := by
          cases e : satB W a (nxtN W.n W.back j W.back)
          · rfl
          · exact absurd (satB_iff.1 e) hj
        rw [h1 _ (hin j).2, e]; simp⟩
    · exact ⟨W.back, Nat.le_refl _, hb, by rw [h0 _ hb, hx]; rfl⟩
  · cases ha
  · cases ha
  · obtain ⟨g1, -, g3, g4⟩ := hS.two _ _ _ _ rfl
    simp only [Tm.kd, metB, show ¬ (15 : Int) = 17 by decide, show ¬ (15 : Int) = 18 by decide, if_true, if_false]
    cases hx : satB W (.n2 15 0 a b) W.back
    · exact ⟨W.back, Nat.le_refl _, hb, by rw [h0 _ hb, hx]; rfl⟩
    · rw [satB_iff, sat_unt] at hx
      obtain ⟨j, hj, _⟩ := hx
      exact ⟨_, (hin j).1, (hin j).2, by rw [hs _ _ g4 _ (hin j).2, satB_iff.2 hj]; simp⟩
  · obtain ⟨g1, -, g3, g4⟩ := hS.two _ _ _ _ rfl
    simp only [Tm.kd, metB, show ¬ (16 : Int) = 17 by decide, show ¬ (16 : Int) = 18 by decide, show ¬ (16 : Int) = 15 by decide, if_true, if_false]
    cases hx : satB W (.n2 16 0 a b) W.back
    · have hx' : ¬ Sat W (.n2 16 0 a b) W.back := fun h => by rw [satB_iff.2 h] at hx; cases hx
      rw [sat_rel, rel_not] at hx'
      obtain ⟨j, hj, _⟩ := Classical.not_not.1 hx'
      exact ⟨_, (hin j).1, (hin j).2, by
        have e : satB W b (nxtN W.n W.back j W.back) = false := by
          cases e : satB W b (nxtN W.n W.back j W.back)
          · rfl
          · exact absurd (satB_iff.1 e) hj
        rw [hs _ _ g4 _ (hin j).2, e]; simp⟩
    · exact ⟨W.back, Nat.le_refl _, hb, by rw [h0 _ hb, hx]; rfl⟩
end

end Go.Proofs.YtkkbefhnklpfaaaDoor

namespace Go.Proofs.YtkkbefhnklpfaaaDoor
open Go.RowKit

/-- keeps, with the second part's place told. -/
def keepV (k : Int) (now next : List Bool) (p s : Nat) : Bool :=
  if k = 14 then now.getD p false == next.getD (p + 1) false
  else if k = 17 then now.getD p false == (now.getD (p + 1) false || next.getD p false)
  else if k = 18 then now.getD p false == (now.getD (p + 1) false && next.getD p false)
  else if k = 15 then now.getD p false == (now.getD s false || (now.getD (p + 1) false && next.getD p false))
  else now.getD p false == (now.getD s false && (now.getD (p + 1) false || next.getD p false))
theorem keepV_eq (k : Int) (es : List Int) (now next : List Bool) (p : Nat) : keepB k es now next p = keepV k now next p (secAt es p) := rfl

set_option maxRecDepth 100000 in
set_option maxHeartbeats 2000000 in
theorem keeps_any (w : World) (a b : Option Addr) (n ca cb : Nat) (A B : List Bool) (k : Int) (p s : Nat) (hA : Row w 1 a n ca (A.map .bool)) (hB : Row w 1 b n cb (B.map .bool)) (hp : p + 1 < n) (hs : k = 15 ∨ k = 16 → s < n) (hk : 14 ≤ k) (hk2 : k ≤ 18) (hn : n ≤ 60) :
    Calls Tryd.prog 61 #[.agg #[.slice a n ca, .slice b n cb], .int .i64 k, .int .i64 (p : Int), .int .i64 (s : Int)] w fun e w' => e = .returned (.bool (keepV k A B p s)) ∧ Ext w w' := by
  have hAl : A.length = n := by have := hA.len; simpa using this
  have hBl : B.length = n := by have := hB.len; simpa using this
  obtain ⟨bA, oA, hA1, hA2⟩ := row_ints hA
  obtain ⟨bB, oB, hB1, hB2⟩ := row_ints hB
  obtain rfl := hA1 (by omega)
  obtain rfl := hB1 (by omega)
  have hx := ext_al (Ext.refl w) (Obj.cells #[.slice (some ⟨bA, oA, none⟩) n ca, .slice (some ⟨bB, oB, none⟩) n cb] 126)
  have hbk := blk_new w (Obj.cells #[.slice (some ⟨bA, oA, none⟩) n ca, .slice (some ⟨bB, oB, none⟩) n cb] 126)
  have p0 := blk_cell hbk (i := 0) (v := .slice (some ⟨bA, oA, none⟩) n ca) rfl
  have p1 := blk_cell hbk (i := 1) (v := .slice (some ⟨bB, oB, none⟩) n cb) rfl
  have a0 := cell_later hx (hA2 p _ (getD_some (by omega)))
  have a1 := cell_later hx (hA2 (p + 1) _ (getD_some (by omega)))
  have b0 := cell_later hx (hB2 p _ (getD_some (by omega)))
  have b1 := cell_later hx (hB2 (p + 1) _ (getD_some (by omega)))
  have HA2 := Lib.hid fun (h : s < n) => cell_later hx (hA2 s _ (getD_some (by omega)))
  have HX := Lib.hid hx
  have hpI : (p : Int) < (n : Int) := by omega
  have hp0 : (0 : Int) ≤ (p : Int) := by omega
  have hw0 : IntKind.i64.wrap ((p : Int) + 1) = (p : Int) + 1 := IntWalk.i64_in _ (by omega)
  have hp1I : (p : Int) + 1 < (n : Int) := by omega
  have hp10 : (0 : Int) ≤ (p : Int) + 1 := by omega
  have hto : ((p : Int) + 1).toNat = p + 1 := by omega
  have hsI : k = 15 ∨ k = 16 → (s : Int) < (n : Int) := fun h => by have := hs h; omega
  have HSI := Lib.hid hsI
  have HS := Lib.hid hs
  have hs0 : (0 : Int) ≤ (s : Int) := by omega
  unfold keepV
  generalize A.getD p false = me at *
  generalize A.getD (p + 1) false = fa at *
  generalize B.getD p false = la at *
  generalize B.getD (p + 1) false = fb at *
  generalize A.getD s false = sa at *
  have hkk : k = 14 ∨ k = 15 ∨ k = 16 ∨ k = 17 ∨ k = 18 := by omega
  clear hA hB hA1 hA2 hB1 hB2 hx hbk hsI hs hk hk2 hAl hBl
  rcases hkk with rfl | rfl | rfl | rfl | rfl
  · clear HA2
    go_enter Tryd.func61, Tryd.ntmps61
    go_wp2_with fail
    go_quiet (fail)
    go_wp2
    go_ret
    exact ⟨rfl, below_drewN HX.out _⟩
  · have sI := HSI.out (.inl rfl)
    have a2 := HA2.out (HS.out (.inl rfl))
    clear HSI HS HA2
    cases sa
    all_goals cases fa
    all_goals
      go_enter Tryd.func61, Tryd.ntmps61
      go_wp2_with fail
      go_quiet (fail)
      go_wp2
      go_ret
      exact ⟨by cases me <;> cases la <;> rfl, below_drewN HX.out _⟩
  · have sI := HSI.out (.inr rfl)
    have a2 := HA2.out (HS.out (.inr rfl))
    clear HSI HS HA2
    cases sa
    all_goals cases fa
    all_goals
      go_enter Tryd.func61, Tryd.ntmps61
      go_wp2_with fail
      go_quiet (fail)
      go_wp2
      go_ret
      exact ⟨by cases me <;> cases la <;> rfl, below_drewN HX.out _⟩
  · clear HA2
    cases fa
    all_goals
      go_enter Tryd.func61, Tryd.ntmps61
      go_wp2_with fail
      go_quiet (fail)
      go_wp2
      go_ret
      exact ⟨by cases me <;> cases la <;> rfl, below_drewN HX.out _⟩
  · clear HA2
    cases fa
    all_goals
      go_enter Tryd.func61, Tryd.ntmps61
      go_wp2_with fail
      go_quiet (fail)
      go_wp2
      go_ret
      exact ⟨by cases me <;> cases la <;> rfl, below_drewN HX.out _⟩

theorem folB_false {l : List Op2} {es : List Int} {now next : List Bool} {i : Nat} (h : folB l es now next i = false) : ∀ m, i ≤ m → folB l es now next m = false
  | 0, hm => by obtain rfl : i = 0 := by omega
                exact h
  | m + 1, hm => by
    by_cases e : i = m + 1
    · subst e; exact h
    · rw [folB, folB_false h m (by omega)]; rfl

end Go.Proofs.YtkkbefhnklpfaaaDoor

namespace Go.Proofs.YtkkbefhnklpfaaaDoor
open Go.RowKit

set_option maxRecDepth 100000 in
set_option maxHeartbeats 8000000 in
theorem follows_any (v : Value) (l : List Op2) (t : Tm) (v1 v2 : Value) (L1 L2 : List Bool) (c1 c2 : Nat) (w : World) (h : Ops w v l) (ht : Tab w) (hf : IsF l (L1.length : Int) t) (hL1 : Bools w v1 L1) (hL2 : Bools w v2 L2) (hlen : L2.length = L1.length) (hc1 : c1 < 2 ^ cntA l) (hc2 : c2 < 2 ^ cntA l) :
    Calls Tryd.prog 40 #[v, v1, .int .i64 (c1 : Int), v2, .int .i64 (c2 : Int)] w fun e w' => e = .returned (.tuple #[.bool (folB l (t.ends 0) (tvT L1 c1 t 0) (tvT L2 c2 t 0) l.length), .int .i64 0]) ∧ Ext w w' := by
  have hen := ends_term t hf.ok hf.small
  rw [hf.flat] at hen
  have HTR := Lib.hid (truths_any v l t v1 L1 c1 w h ht hf hL1 hc1)
  have HTS := Lib.hid fun wx (hx : Ext w wx) => truths_any v l t v2 L2 c2 wx (h.ext hx) (ht.ext hx) (by rw [hlen]; exact hf) (hL2.ext hx) hc2
  have HEN := Lib.hid fun wx (hx : Ext w wx) => by have H := ends_any v l wx (h.ext hx) (ht.ext hx); rw [hen] at H; exact H
  have hl60 : l.length ≤ 60 := by rw [← hf.flat, Tm.flat_len]; exact hf.small
  have hpos : 0 < l.length := by rw [← hf.flat, Tm.flat_len]; exact t.size_pos
  have htl : ∀ L c, (tvT L c t 0).length = l.length := fun L c => by rw [tvT_len, ← Tm.flat_len, hf.flat]
  have hel : (t.ends 0).length = l.length := by rw [Tm.ends_len, ← Tm.flat_len, hf.flat]
  have HTV := Lib.hid fun i k v (hi : l[i]? = some (k, v)) => by have := tv_at L1 c1 t hf.ok i k v (by rw [hf.flat]; exact hi); rw [hf.flat] at this; exact this
  have HSUB := Lib.hid fun i (hi : i < l.length) => by have h := subs_at t hf.ok i (by rw [← Tm.flat_len, hf.flat]; exact hi); rw [hf.flat] at h; exact h
  obtain ⟨a, cap, rfl, hr⟩ := h
  obtain ⟨al1, cl1, rfl, hrl1⟩ := hL1
  obtain ⟨al2, cl2, rfl, hrl2⟩ := hL2
  have HR := Lib.hid hr
  have HF := Lib.hid hf
  have htlA := htl L1 c1
  have htlB := htl L2 c2
  have hll : ((L1.length : Int) != (L2.length : Int)) = false := by rw [hlen]; simp
  have HEB := Lib.hid fun i (hi : i + 1 < l.length) => show (t.ends 0)[i + 1]? = some (secAt (t.ends 0) i : Int) ∧ secAt (t.ends 0) i ≤ 60 from by
    have hi2 : i + 1 < (t.ends 0).length := by rw [hel]; exact hi
    have h1 := List.getElem?_eq_getElem hi2
    have h2 := (ends_nest t 0).1 (i + 1) hi2
    have h3 : t.size ≤ 60 := hf.small
    have e : secAt (t.ends 0) i = ((t.ends 0)[i + 1]).toNat := by unfold secAt; rw [List.getD, h1]; rfl
    rw [h1, e]
    exact ⟨by congr 1; omega, by omega⟩
  generalize t.ends 0 = es at *
  generalize tvT L1 c1 t 0 = A at *
  generalize tvT L2 c2 t 0 = B at *
  have HTA := Lib.hid htlA
  have HTB := Lib.hid htlB
  have HEL := Lib.hid hel
  clear hen hf hr hrl1 hrl2 ht htl htlA htlB hel hc1 hc2 hlen
  go_enter Tryd.func40, Tryd.ntmps40
  go_wp2_with fail
  refine HTR.out.mono ?_
  rintro e w1 ⟨DA, rfl, hoA, hE1⟩
  have HOA := Lib.hid hoA
  have HE1 := Lib.hid hE1
  clear hoA hE1 HTR
  go_wp2_with fail
  refine (HTS.out _ HE1.out).mono ?_
  rintro e w2 ⟨DB, rfl, hoB, hE2⟩
  have HOB := Lib.hid hoB
  have HOA2 := Lib.hid (own_ext HOA.out hE2)
  have HE2 := Lib.hid (HE1.out.trans hE2)
  clear hoB hE2 HTS HOA HE1
  go_wp2_with fail
  refine (HEN.out _ HE2.out).mono ?_
  rintro e w3 ⟨hE3, v3, rfl, hown3⟩
  obtain ⟨ae, ce, rfl, hre⟩ := hown3.row
  have HRE := Lib.hid hre
  have HE3 := Lib.hid (HE2.out.trans hE3)
  have HRA := Lib.hid (show Row w3 1 (some ⟨DA, 0, none⟩) l.length l.length (A.map .bool) from by
    obtain ⟨_, _, e, h⟩ := (own_ext HOA2.out hE3).row
    simp only [Value.slice.injEq] at e
    obtain ⟨rfl, _, rfl⟩ := e
    exact h)
  have HRB := Lib.hid (show Row w3 1 (some ⟨DB, 0, none⟩) l.length l.length (B.map .bool) from by
    obtain ⟨_, _, e, h⟩ := (own_ext HOB.out hE3).row
    simp only [Value.slice.injEq] at e
    obtain ⟨rfl, _, rfl⟩ := e
    exact h)
  clear hown3 hre hE3 HEN HE2 HOA2 HOB
  go_wp2_with fail
  go_loopg [51] l.length (fun m x wr => ∃ i : Nat, m + i = l.length ∧ x = .int .i64 (i : Int) ∧ folB l es A B i = true ∧ Ext w3 wr)
  case atStart => exact ⟨0, by omega, by go_num, rfl, Ext.refl _⟩
  case round =>
    obtain ⟨i, hmi, rfl, hfo, hE⟩ := hrel
    have HMI := Lib.hid hmi
    have HFO := Lib.hid hfo
    have HE := Lib.hid hE
    by_cases hi : i < l.length
    · obtain ⟨b, off, hb, hcc⟩ := (HR.out.ext (HE3.out.trans hE)).ops
      obtain rfl := hb hpos
      obtain ⟨k1, k2⟩ := hcc i hi
      have hg : l.getD i (0, 0) = l[i] := by simp [List.getD, List.getElem?_eq_getElem hi]
      have hfs : folB l es A B (i + 1) = (folB l es A B i && (!aheadB l[i].1 || keepB l[i].1 es A B i)) := by rw [folB, hg]
      rw [hfo] at hfs
      have htva := HTV.out i l[i].1 l[i].2 (List.getElem?_eq_getElem hi)
      obtain ⟨s, hS⟩ := HSUB.out i hi
      have hkd : l[i] = (s.kd, s.vl) := by have := hS.op; rw [List.getElem?_eq_getElem hi] at this; exact Option.some.inj this
      obtain ⟨hf1, hf2, -, -⟩ := HF.out.fit l[i] (by simp)
      have HFS := Lib.hid hfs
      have HTW := Lib.hid htva
      have hiI : (i : Int) < (l.length : Int) := by omega
      have hi0 : (0 : Int) ≤ (i : Int) := by omega
      generalize l[i] = o at *
      obtain ⟨k, u⟩ := o
      simp only at k1 k2 hf1 hf2 HFS HTW
      have hx := ext_al hE (Obj.cells #[.int .i64 k, .int .i64 u] 35)
      have hbk := blk_new wr (Obj.cells #[.int .i64 k, .int .i64 u] 35)
      have HX := Lib.hid hx
      have HBK := Lib.hid hbk
      clear hcc hb hfs htva hE hx hbk hmi hfo hg hS hkd
      cases hah : aheadB k
      · have hfs := HFS.out
        rw [hah] at hfs
        have HF1 := Lib.hid (show folB l es A B (i + 1) = true by simpa using hfs)
        have HAH := Lib.hid fun wx => by have h := ah_fn k wx; rw [hah] at h; exact h
        clear hfs hah
        go_upto_region 13 with fail
        have o0 := blk_cell HBK.out (i := 0) rfl
        generalize wr.alloc (Obj.cells #[.int .i64 k, .int .i64 u] 35) = wq at *
        generalize wr.heap.size = O at *
        refine wp_region_quiet_lit (by kernel_rfl) (by kernel_rfl) (Shut.out ?_)
        repeat (refine hq_step (fun K hK => ?_); go_simp; first | (refine hK _ ?_; clear hK K) | (apply Exists.intro; refine ⟨fun _ => ?_, hK _ ?_⟩; (first | (go_at_call 60; exact Calls.quiet_of_same (still_of (HAH.out _)))); clear hK K))
        refine hq_nil ?_
        rintro _ ⟨nq, rfl⟩
        go_wp2_with fail
        go_roundg (gk - 1)
        case measure => have := HMI.out; omega
        case rel => exact ⟨i + 1, by have := HMI.out; omega, by go_num, HF1.out, below_drewN HX.out _⟩
      · have HAH := Lib.hid fun wx => by have h := ah_fn k wx; rw [hah] at h; exact h
        have hfs := HFS.out
        rw [hah] at hfs
        have hk14 : 14 ≤ k := by have := hah; unfold aheadB at this; simp only [decide_eq_true_eq] at this; exact this.1
        have hone := HTW.out.one (by
          rcases (show k = 14 ∨ k = 15 ∨ k = 16 ∨ k = 17 ∨ k = 18 by omega) with rfl | rfl | rfl | rfl | rfl <;> decide)
        obtain ⟨he1, he2⟩ := HEB.out i hone
        have htwo : k = 15 ∨ k = 16 → secAt es i < l.length := fun h => (HTW.out.two (by rcases h with rfl | rfl <;> rfl)).2.2
        obtain ⟨bb, hbb⟩ : ∃ bb, keepB k es A B i = bb := ⟨_, rfl⟩
        have hkv := hbb
        rw [keepV_eq] at hkv
        generalize secAt es i = s at *
        have HKE := Lib.hid fun wx (hw : Ext w3 wx) => by have h := keeps_any wx (some ⟨DA, 0, none⟩) (some ⟨DB, 0, none⟩) l.length l.length l.length A B k i s (HRA.out.ext hw) (HRB.out.ext hw) hone htwo hk14 hf2 hl60; rw [hkv] at h; exact h
        obtain ⟨be, oe, hbe, hce⟩ := row_ints (HRE.out.ext HX.out)
        obtain rfl := hbe (by rw [HEL.out]; omega)
        have ce1 := hce _ _ he1
        have o0 := blk_cell HBK.out (i := 0) (v := .int .i64 k) rfl
        have HFB := Lib.hid (show folB l es A B (i + 1) = bb by rw [hfs, hbb]; rfl)
        have honeE : i + 1 < es.length := by rw [HEL.out]; exact hone
        have hw0 : IntKind.i64.wrap ((i : Int) + 1) = (i : Int) + 1 := IntWalk.i64_in _ (by omega)
        have hi1I : (i : Int) + 1 < (es.length : Int) := by omega
        have hi10 : (0 : Int) ≤ (i : Int) + 1 := by omega
        have hto : ((i : Int) + 1).toNat = i + 1 := by omega
        clear hah he1 he2 htwo hbb hkv hbe hce hfs hone honeE hk14 HTW HFS
        go_upto_region 13 with fail
        have EW := HX.out
        generalize wr.alloc (Obj.cells #[.int .i64 k, .int .i64 u] 35) = wq at *
        generalize wr.heap.size = O at *
        have cur := And.intro o0 ce1
        go_region_held3 (fun w' => w'.cell? ⟨O, 0, none⟩ = some (.int .i64 k) ∧ w'.cell? ⟨be, oe + (i + 1), none⟩ = some (.int .i64 (s : Int)))
          (first | exact cur | exact ⟨cell_later (Below.drew (Ext.refl _)) cur.1, cell_later (Below.drew (Ext.refl _)) cur.2⟩ | go_keep)
          (first
            | (go_at_call 60
               refine (HAH.out _).mono ?_
               rintro e wn ⟨rfl, rfl⟩)
            | (go_at_call 61
               refine (HKE.out _ (by first | exact EW | exact Below.drew EW)).mono ?_
               rintro e wn ⟨rfl, hE⟩
               replace cur := And.intro (cell_later hE (cell_later (Below.drew (Ext.refl _)) cur.1)) (cell_later hE (cell_later (Below.drew (Ext.refl _)) cur.2))
               replace EW : Ext w3 wn := Ext.trans (Below.drew EW) hE))
        all_goals
          have HEW := Lib.hid EW
          cases bb
          · go_wp2
            go_ret2
            exact ⟨by rw [folB_false HFB.out l.length (by omega)]; rfl, (HE3.out.trans HEW.out)⟩
          · go_wp2_with fail
            go_roundg (gk - 1)
            case measure => have := HMI.out; omega
            case rel => exact ⟨i + 1, by have := HMI.out; omega, by go_num, HFB.out, HEW.out⟩
    · obtain rfl : i = l.length := by omega
      have hiI : ¬ (l.length : Int) < (l.length : Int) := by omega
      have HEW := Lib.hid (HE3.out.trans hE)
      clear hmi hE hfo
      go_wp2
      go_ret2
      exact ⟨by rw [HFO.out]; rfl, HEW.out⟩

end Go.Proofs.YtkkbefhnklpfaaaDoor

namespace Go.Proofs.YtkkbefhnklpfaaaDoor
open Go.RowKit

set_option maxRecDepth 100000 in
set_option maxHeartbeats 8000000 in
theorem spot_ok (vv rv pv fv : Value) (m : Md) (P : List Tm) (t : Tm) (s cl : Int) (w : World) (h : IsTask w vv rv pv fv m P t) (ht : Tab w) (hk : TkOk m P t) (hs0 : 0 ≤ s) (hs1 : s < countL m.vars) (hc0 : 0 ≤ cl) :
    Calls Tryd.prog 39 #[.agg #[vv, rv, pv, fv], .agg #[.int .i64 s, .int .i64 cl]] w fun e w' => e = .returned (.bool (decide (cl < ((2 ^ cntA t.flat : Nat) : Int)))) ∧ Ext w w' := by
  have HCO := Lib.hid fun wx (hx : Ext w wx) => count_any vv rv m wx (h.md.ext hx) (ht.ext hx) hk.ok
  have HCL := Lib.hid fun wx (hx : Ext w wx) => claims_n vv rv pv fv m P t wx (h.ext hx) (ht.ext hx) hk
  obtain ⟨av, cv, ar, cr, ap, cp, af, nf, cf, rfl, rfl, rfl, rfl⟩ := h.val
  obtain ⟨N, hN⟩ : ∃ x, 2 ^ cntA t.flat = x := ⟨_, rfl⟩
  rw [hN] at HCL ⊢
  obtain ⟨C, hC⟩ : ∃ x, countL m.vars = x := ⟨_, rfl⟩
  rw [hC] at HCO hs1
  generalize m.vars.length = nv at *
  generalize m.rules.length = nr at *
  generalize P.length = np at *
  clear h ht hk hN hC
  have hb := blk_new w (Obj.cells #[.slice av nv cv, .slice ar nr cr, .slice ap np cp, .slice af nf cf] 49)
  have hx := ext_al (Ext.refl (w.alloc (Obj.cells #[.slice av nv cv, .slice ar nr cr, .slice ap np cp, .slice af nf cf] 49))) (Obj.cells #[.int .i64 s, .int .i64 cl] 59)
  have hb2 := blk_new (w.alloc (Obj.cells #[.slice av nv cv, .slice ar nr cr, .slice ap np cp, .slice af nf cf] 49)) (Obj.cells #[.int .i64 s, .int .i64 cl] 59)
  rw [World.size_alloc] at hb2
  have HE := Lib.hid ((ext_al (Ext.refl w) (Obj.cells #[.slice av nv cv, .slice ar nr cr, .slice ap np cp, .slice af nf cf] 49)).trans hx)
  have HB := Lib.hid (blk_ext hb hx)
  have HS := Lib.hid hb2
  have d0 := blk_cell (blk_ext hb hx) (i := 0) rfl
  have d1 := blk_cell (blk_ext hb hx) (i := 1) rfl
  clear hb hx hb2
  go_enter Tryd.func39, Tryd.ntmps39
  go_wp2_with fail
  generalize (w.alloc (Obj.cells #[.slice av nv cv, .slice ar nr cr, .slice ap np cp, .slice af nf cf] 49)).alloc (Obj.cells #[.int .i64 s, .int .i64 cl] 59) = W1 at *
  refine (HCO.out _ HE.out).mono ?_
  rintro e w2 ⟨rfl, hE2⟩
  have HX2 := Lib.hid (HE.out.trans hE2)
  have hb2 := blk_ext HB.out hE2
  have hs2 := blk_ext HS.out hE2
  have d0 := blk_cell hb2 (i := 0) rfl
  have d1 := blk_cell hb2 (i := 1) rfl
  have d2 := blk_cell hb2 (i := 2) rfl
  have d3 := blk_cell hb2 (i := 3) rfl
  have s0 := blk_cell hs2 (i := 0) rfl
  have s1 := blk_cell hs2 (i := 1) rfl
  have HS2 := Lib.hid hs2
  have k1 : decide (0 ≤ s) = true := decide_eq_true hs0
  have k2 : decide (s < C) = true := decide_eq_true hs1
  have k3 : decide (0 ≤ cl) = true := decide_eq_true hc0
  clear hE2 hb2 hs2
  go_upto_region 2 with fail
  go_region_law (first
    | (go_simp
       go_at_call 33
       refine (HCL.out _ (HX2.out.trans (Below.drew (Ext.refl _)))).mono ?_
       rintro e w5 ⟨rfl, hE5⟩
       have s05 := blk_cell (blk_ext HS2.out (Ext.trans (Below.drew (Ext.refl _)) hE5)) (i := 0) rfl
       have s15 := blk_cell (blk_ext HS2.out (Ext.trans (Below.drew (Ext.refl _)) hE5)) (i := 1) rfl
       have HE5 := Lib.hid (HX2.out.trans (Ext.trans (Below.drew (Ext.refl _)) hE5))
       clear hE5))
  all_goals
    go_wp2
    go_ret
    exact ⟨rfl, HE5.out⟩

/-- Spots at a state, with the claims below a number that follow. -/
def behN (F : Int → Nat → Bool) (n : Int) (i : Nat) : List (Int × Int) := ((List.range i).filter (F n)).map fun c : Nat => (n, (c : Int))
theorem behN_yes {F : Int → Nat → Bool} {n : Int} {i : Nat} (h : F n i = true) : behN F n (i + 1) = behN F n i ++ [(n, (i : Int))] := by
  unfold behN
  rw [List.range_succ, List.filter_append, List.map_append]
  simp [h]
theorem behN_no {F : Int → Nat → Bool} {n : Int} {i : Nat} (h : F n i = false) : behN F n (i + 1) = behN F n i := by
  unfold behN
  rw [List.range_succ, List.filter_append, List.map_append]
  simp [h]
theorem behN_len (F : Int → Nat → Bool) (n : Int) (i : Nat) : (behN F n i).length ≤ i := by
  unfold behN
  rw [List.length_map]
  exact Nat.le_trans (List.length_filter_le _ _) (by simp)
def behL (F : Int → Nat → Bool) (N : Nat) (ns : List Int) : List (Int × Int) := ns.flatMap fun n => behN F n N
theorem behL_succ {F : Int → Nat → Bool} {N : Nat} {ns : List Int} {i : Nat} (hi : i < ns.length) : behL F N (ns.take (i + 1)) = behL F N (ns.take i) ++ behN F ns[i] N := by
  unfold behL
  rw [List.take_succ_eq_append_getElem hi, List.flatMap_append]
  simp
theorem behL_len (F : Int → Nat → Bool) (N : Nat) : ∀ (ns : List Int), (behL F N ns).length ≤ ns.length * N
  | [] => by simp [behL]
  | n :: ns => by
    have h1 := behL_len F N ns
    have h2 := behN_len F n N
    unfold behL at *
    rw [List.flatMap_cons, List.length_append, List.length_cons, Nat.add_mul]
    omega
/-- Does a claim at a state follow another one? -/
def folX (m : Md) (P : List Tm) (t : Tm) (s : Int) (cl : Nat) (n : Int) (c : Nat) : Bool :=
  folB t.flat (t.ends 0) (tvT (letS P (valsL m.vars s)) cl t 0) (tvT (letS P (valsL m.vars n)) c t 0) t.flat.length

set_option maxRecDepth 100000 in
set_option maxHeartbeats 16000000 in
theorem pbehind_any (vv rv pv fv : Value) (m : Md) (P : List Tm) (t : Tm) (s : Int) (cl : Nat) (w : World) (h : IsTask w vv rv pv fv m P t) (ht : Tab w) (hk : TkOk m P t) (hs0 : 0 ≤ s) (hs1 : s < countL m.vars) (hc0 : cl < 2 ^ cntA t.flat) :
    Calls Tryd.prog 21 #[.agg #[vv, rv, pv, fv], .agg #[.int .i64 s, .int .i64 (cl : Int)]] w fun e w' => ∃ v, e = .returned (.tuple #[v, .int .i64 0]) ∧
      w'.ownsRow w.heap.size 59 2 v (behL (folX m P t s cl) (2 ^ cntA t.flat) (nextL m s)).length ((behL (folX m P t s cl) (2 ^ cntA t.flat) (nextL m s)).flatMap spc) ∧ Ext w w' := by
  have HCK := Lib.hid fun wx (hx : Ext w wx) => pcheck_any vv rv pv fv m P t wx (h.ext hx) (ht.ext hx) hk
  have HCL := Lib.hid fun wx (hx : Ext w wx) => claims_n vv rv pv fv m P t wx (h.ext hx) (ht.ext hx) hk
  have HSP := Lib.hid fun wx (hx : Ext w wx) => (show Calls Tryd.prog 39 #[.agg #[vv, rv, pv, fv], .agg #[.int .i64 s, .int .i64 (cl : Int)]] wx fun e w' => e = .returned (.bool true) ∧ Ext wx w' from by
    have h1 := spot_ok vv rv pv fv m P t s (cl : Int) wx (h.ext hx) (ht.ext hx) hk hs0 hs1 (by omega)
    rw [decide_eq_true (show (cl : Int) < ((2 ^ cntA t.flat : Nat) : Int) by omega)] at h1
    exact h1)
  have HLE := Lib.hid fun (n : Int) wx (hx : Ext w wx) (hn : 0 ≤ n ∧ n < countL m.vars) => sletter_any vv rv pv m P n wx (h.md.ext hx) (ht.ext hx) hk.ok (h.pr.ext hx) hk.pk hn.1 hn.2
  have HNX := Lib.hid fun wx (hx : Ext w wx) => nextE_any vv rv m s wx (h.md.ext hx) (ht.ext hx) hk.ok hk.v0 hs0 hs1
  have HNI := Lib.hid fun n (hn : n ∈ nextL m s) => (show 0 ≤ n ∧ n < countL m.vars from NextP.in hk.ok.toPre hs0 hs1 (((nextL_ok m s).mem n).1 hn))
  have HLL := Lib.hid fun n => letS_len P (valsL m.vars n)
  have HFO := Lib.hid fun (v1 v2 : Value) (n : Int) (c : Nat) wx (hx : Ext w wx) (h1 : Bools wx v1 (letS P (valsL m.vars s))) (h2 : Bools wx v2 (letS P (valsL m.vars n))) (hc : c < 2 ^ cntA t.flat) => (show Calls Tryd.prog 40 #[fv, v1, .int .i64 (cl : Int), v2, .int .i64 (c : Int)] wx fun e w' => e = .returned (.tuple #[.bool (folX m P t s cl n c), .int .i64 0]) ∧ Ext wx w' from
    follows_any fv t.flat t v1 v2 (letS P (valsL m.vars s)) (letS P (valsL m.vars n)) cl c wx (h.fo.ext hx) (ht.ext hx) (by rw [letS_len]; exact hk.ff) h1 h2 (by rw [letS_len, letS_len]) hc0 hc)
  have hp2 : 2 ^ cntA t.flat ≤ 64 := by
    have := Nat.pow_le_pow_right (n := 2) (by omega) hk.ff.cnt
    simpa using this
  have hn1 := (nextL_len m s).1
  have hn2 : (nextL m s).length ≤ 12 := by have := (nextL_len m s).2; have := hk.ok.twelve; omega
  have hp6 := hk.pk.six
  obtain ⟨av, cv, ar, cr, ap, cp, af, nf, cf, rfl, rfl, rfl, rfl⟩ := h.val
  generalize folX m P t s cl = F at *
  generalize nextL m s = ns at *
  obtain ⟨LT, hLT⟩ : ∃ LT : Int → List Bool, (fun n => letS P (valsL m.vars n)) = LT := ⟨_, rfl⟩
  have hLTa : ∀ n, letS P (valsL m.vars n) = LT n := fun n => by rw [← hLT]
  simp only [hLTa] at HLE HFO HLL
  obtain ⟨C, hC⟩ : ∃ x, countL m.vars = x := ⟨_, rfl⟩
  rw [hC] at HLE HNI hs1
  obtain ⟨N, hN⟩ : ∃ x, 2 ^ cntA t.flat = x := ⟨_, rfl⟩
  rw [hN] at HCL HFO hp2 hc0 ⊢
  clear h ht hk hLT hLTa hC hN
  generalize m.vars.length = nv at *
  generalize m.rules.length = nr at *
  generalize P.length = np at *
  have hb := blk_new w (Obj.cells #[.slice av nv cv, .slice ar nr cr, .slice ap np cp, .slice af nf cf] 49)
  have hx := ext_al (Ext.refl (w.alloc (Obj.cells #[.slice av nv cv, .slice ar nr cr, .slice ap np cp, .slice af nf cf] 49))) (Obj.cells #[.int .i64 s, .int .i64 (cl : Int)] 59)
  have hb2 := blk_new (w.alloc (Obj.cells #[.slice av nv cv, .slice ar nr cr, .slice ap np cp, .slice af nf cf] 49)) (Obj.cells #[.int .i64 s, .int .i64 (cl : Int)] 59)
  rw [World.size_alloc] at hb2
  have HE := Lib.hid ((ext_al (Ext.refl w) (Obj.cells #[.slice av nv cv, .slice ar nr cr, .slice ap np cp, .slice af nf cf] 49)).trans hx)
  have HB := Lib.hid (blk_ext hb hx)
  have HS := Lib.hid hb2
  have d0 := blk_cell HB.out (i := 0) rfl
  have d1 := blk_cell HB.out (i := 1) rfl
  have d2 := blk_cell HB.out (i := 2) rfl
  have d3 := blk_cell HB.out (i := 3) rfl
  clear hb hx hb2
  go_enter Tryd.func21, Tryd.ntmps21
  go_wp2_with fail
  generalize (w.alloc (Obj.cells #[.slice av nv cv, .slice ar nr cr, .slice ap np cp, .slice af nf cf] 49)).alloc (Obj.cells #[.int .i64 s, .int .i64 (cl : Int)] 59) = W1 at *
  refine (HCK.out _ HE.out).mono ?_
  rintro e w2 ⟨rfl, hE2⟩
  have HY2 := Lib.hid hE2
  have d0 := blk_cell (blk_ext HB.out hE2) (i := 0) rfl
  have d1 := blk_cell (blk_ext HB.out hE2) (i := 1) rfl
  have d2 := blk_cell (blk_ext HB.out hE2) (i := 2) rfl
  have d3 := blk_cell (blk_ext HB.out hE2) (i := 3) rfl
  have s0 := blk_cell (blk_ext HS.out hE2) (i := 0) rfl
  have s1 := blk_cell (blk_ext HS.out hE2) (i := 1) rfl
  clear hE2
  go_wp2_with fail
  refine (HSP.out _ (HE.out.trans HY2.out)).mono ?_
  rintro e w3 ⟨rfl, hE3⟩
  have HY3 := Lib.hid (HY2.out.trans hE3)
  have d0 := blk_cell (blk_ext HB.out HY3.out) (i := 0) rfl
  have d1 := blk_cell (blk_ext HB.out HY3.out) (i := 1) rfl
  have d2 := blk_cell (blk_ext HB.out HY3.out) (i := 2) rfl
  have s0 := blk_cell (blk_ext HS.out HY3.out) (i := 0) rfl
  clear hE3 d3 s1
  go_wp2_with fail
  refine (HLE.out s _ (HE.out.trans HY3.out) ⟨hs0, hs1⟩).mono ?_
  rintro e w4 ⟨v4, rfl, ho4, hE4⟩
  obtain ⟨a4, c4, rfl, _⟩ := id ho4.row
  have HBO := Lib.hid (show Bools w4 (.slice a4 np c4) (LT s) from by
    have h := ho4.reads
    unfold Bools
    rw [HLL.out]
    exact h)
  have HY4 := Lib.hid (HY3.out.trans hE4)
  have d0 := blk_cell (blk_ext HB.out HY4.out) (i := 0) rfl
  have d1 := blk_cell (blk_ext HB.out HY4.out) (i := 1) rfl
  have s0 := blk_cell (blk_ext HS.out HY4.out) (i := 0) rfl
  clear hE4 ho4 d2
  go_wp2_with fail
  refine (HNX.out _ (HE.out.trans HY4.out)).mono ?_
  rintro e w5 ⟨v5, rfl, ho5, hE5⟩
  obtain ⟨Q5, c5, rfl⟩ := own_shape ho5 hn1
  have HY5 := Lib.hid (HY4.out.trans hE5)
  have HBO5 := Lib.hid (HBO.out.ext hE5)
  have HO5 := Lib.hid ho5
  clear hE5 ho5 d0 d1 s0 HBO
  have HO0 := Lib.hid (show w5.ownsRow w5.heap.size 59 2 (.slice none 0 0) (behL F N (ns.take 0)).length ((behL F N (ns.take 0)).flatMap spc) from World.ownsRow_nil _ _ _ _)
  have HBL := Lib.hid fun i => behL_len F N (ns.take i)
  have HBN := Lib.hid fun n i => behN_len F n i
  go_wp2_with fail
  go_loopg [48, 11] ns.length (fun g x y wr => ∃ (i : Nat) (ab : Option Addr) (cb : Nat), g + i = ns.length ∧ x = .int .i64 (i : Int) ∧ y = .slice ab (behL F N (ns.take i)).length cb ∧ Ext w5 wr ∧ wr.ownsRow w5.heap.size 59 2 (.slice ab (behL F N (ns.take i)).length cb) (behL F N (ns.take i)).length ((behL F N (ns.take i)).flatMap spc))
  case atStart => exact ⟨0, none, 0, by omega, by go_num, rfl, Ext.refl _, HO0.out⟩
  case round =>
    obtain ⟨i, ab, cb, hgi, rfl, rfl, hE, hO⟩ := hrel
    have HGI := Lib.hid hgi
    have HEE := Lib.hid hE
    have HOO := Lib.hid hO
    clear HO0
    by_cases hi : i < ns.length
    · have hbr := blk_ext HB.out (HY5.out.trans hE)
      have d0 := blk_cell hbr (i := 0) rfl
      have d1 := blk_cell hbr (i := 1) rfl
      have d2 := blk_cell hbr (i := 2) rfl
      have cn := own_cellAt (own_ext HO5.out hE) (i := i) (by simpa using hi)
      rw [List.getElem_map] at cn
      have hnb := HNI.out ns[i] (by simp)
      have HLN := Lib.hid (HLE.out ns[i] wr (HE.out.trans (HY5.out.trans hE)) hnb)
      have HSC := Lib.hid (behL_succ (F := F) (N := N) hi)
      have hbl := HBL.out i
      have htk : (ns.take i).length ≤ 12 := by rw [List.length_take]; omega
      have hbl2 : (behL F N (ns.take i)).length ≤ 12 * 64 := Nat.le_trans hbl (Nat.mul_le_mul htk hp2)
      have hiI : (i : Int) < (ns.length : Int) := by omega
      have hi0 : (0 : Int) ≤ (i : Int) := by omega
      generalize ns[i] = n at *
      generalize behL F N (ns.take i) = X at *
      obtain ⟨nX, hnX⟩ : ∃ x, X.length = x := ⟨_, rfl⟩
      rw [hnX] at HOO hbl2 ⊢
      have HNX2 := Lib.hid hnX
      clear hgi hE hO hbr hnb hbl htk hnX
      go_wp2_with fail
      refine HLN.out.mono ?_
      rintro e w6 ⟨v6, rfl, ho6, hE6⟩
      obtain ⟨a6, c6, rfl, _⟩ := id ho6.row
      have HY6 := Lib.hid (HEE.out.trans hE6)
      have hbr := blk_ext HB.out (HY5.out.trans HY6.out)
      have d0 := blk_cell hbr (i := 0) rfl
      have d1 := blk_cell hbr (i := 1) rfl
      have d2 := blk_cell hbr (i := 2) rfl
      have d3 := blk_cell hbr (i := 3) rfl
      have HO6 := Lib.hid ho6
      have HLO6 := Lib.hid (own_ext HOO.out hE6)
      have HSEP := Lib.hid (show ∀ b, (Value.slice ab nX cb).ownBlock = some b → (Value.slice a6 np c6).ownBlock ≠ some b from fun b h1 h2 => by
        have := (HOO.out.lt b h1).2
        have := (ho6.lt b h2).1
        omega)
      clear hbr ho6 hE6 cn
      go_wp2_with fail
      refine (HCL.out _ (HE.out.trans (HY5.out.trans HY6.out))).mono ?_
      rintro e w7 ⟨rfl, hE7⟩
      have HY7 := Lib.hid (HY6.out.trans hE7)
      have HO7 := Lib.hid (own_ext HO6.out hE7)
      have HLO7 := Lib.hid (own_ext HLO6.out hE7)
      obtain ⟨B6, hB6⟩ : ∃ x, wr.heap.size = x := ⟨_, rfl⟩
      rw [hB6] at HO7
      clear hE7 d0 d1 d2 d3 hB6
      go_wp2_with fail
      obtain ⟨wo, rfl⟩ : ∃ wo : World, wo = wr := ⟨_, rfl⟩
      obtain ⟨G0, rfl⟩ : ∃ G0 : Nat, G0 = gk := ⟨_, rfl⟩
      go_loopg [63, 11] N (fun g x y wq => ∃ (c : Nat) (ab' : Option Addr) (cb' : Nat), g + c = N ∧ x = .int .i64 (c : Int) ∧ y = .slice ab' (nX + (behN F n c).length) cb' ∧ Ext w5 wq ∧ wq.ownsRow w5.heap.size 59 2 (.slice ab' (nX + (behN F n c).length) cb') (nX + (behN F n c).length) ((X ++ behN F n c).flatMap spc) ∧ (∀ b, (Value.slice ab' (nX + (behN F n c).length) cb').ownBlock = some b → (Value.slice a6 np c6).ownBlock ≠ some b) ∧ wq.ownsRow B6 4 1 (.slice a6 np c6) np ((LT n).map .bool))
      case atStart => exact ⟨0, ab, cb, by omega, by go_num, rfl, HY7.out, by simpa [behN] using HLO7.out, HSEP.out, HO7.out⟩
      case round =>
        obtain ⟨c, ab', cb', hgc, rfl, rfl, hE, hO, hSep, hL⟩ := hrel
        have HGC := Lib.hid hgc
        have HEQ := Lib.hid hE
        have HOQ := Lib.hid hO
        have HSQ := Lib.hid hSep
        have HLQ := Lib.hid hL
        by_cases hc : c < N
        · have hbr := blk_ext HB.out (HY5.out.trans hE)
          have hbs := blk_ext HS.out (HY5.out.trans hE)
          have d2 := blk_cell hbr (i := 2) rfl
          have d3 := blk_cell hbr (i := 3) rfl
          have s1 := blk_cell hbs (i := 1) rfl
          have HFC := Lib.hid (HFO.out (.slice a4 np c4) (.slice a6 np c6) n c wr (HE.out.trans (HY5.out.trans hE)) (HBO5.out.ext hE) (by
            have h := hL.reads
            unfold Bools
            rw [HLL.out]
            exact h) hc)
          have hbn := HBN.out n c
          have HYS := Lib.hid fun h => behN_yes (F := F) (n := n) (i := c) h
          have HNO := Lib.hid fun h => behN_no (F := F) (n := n) (i := c) h
          obtain ⟨q, hq⟩ : ∃ q, F n c = q := ⟨_, rfl⟩
          rw [hq] at HFC HYS HNO
          have hcI : (c : Int) < (N : Int) := by omega
          have hc0' : (0 : Int) ≤ (c : Int) := by omega
          obtain ⟨nB, hnB⟩ : ∃ x, (behN F n c).length = x := ⟨_, rfl⟩
          rw [hnB] at HOQ HSQ hbn ⊢
          have HNB := Lib.hid hnB
          clear hgc hE hO hSep hL hbr hbs hq hnB
          go_wp2_with fail
          refine HFC.out.mono ?_
          rintro e w8 ⟨rfl, hE8⟩
          have HE8 := Lib.hid (HEQ.out.trans hE8)
          have HO8 := Lib.hid (own_ext HOQ.out hE8)
          have HL8 := Lib.hid (own_ext HLQ.out hE8)
          clear hE8 d2 d3 s1
          cases q
          · have HBE := Lib.hid (HNO.out (by first | rfl | trivial))
            go_wp2_with fail
            go_roundg (gk - 1)
            case measure => have := HGC.out; omega
            case rel => exact ⟨c + 1, ab', cb', by have := HGC.out; omega, by go_num, by rw [HBE.out, HNB.out], HE8.out, by rw [HBE.out, HNB.out]; exact HO8.out, by rw [HBE.out, HNB.out]; exact HSQ.out, HL8.out⟩
          · have HO9 := Lib.hid fun (o : Obj) => own_ext HO8.out (ext_al (Ext.refl w8) o)
            have hs8 := HE8.out.size
            go_wp2_with (at_builtin; go_must (refine wpl_append rfl rfl Tryd.slSpots w5.heap.size rfl (HO9.out _) rfl (Row.newK _ _ 2 _ _ rfl rfl) (by intro u hu; simp only [List.mem_cons, List.not_mem_nil, or_false] at hu; rcases hu with rfl | rfl <;> rfl) (by unfold maxLen; omega) (by omega) (by simp; omega) ?_))
            intro vA wA hownA hgA hbA _
            obtain ⟨aA, cA, rfl, _⟩ := id hownA.row
            have hAA := ext_al (Ext.refl w8) (Obj.cells #[.int .i64 n, .int .i64 (c : Int)] 59)
            have HEA := Lib.hid (show Ext w5 wA from Below.grown (HE8.out.trans hAA) hgA (HE8.out.trans hAA).size (fun b hb => ((HO9.out (Obj.cells #[] 0)).lt b hb).1))
            have hbe := HYS.out (by first | rfl | trivial)
            have hbl3 : (behN F n (c + 1)).length = nB + 1 := by rw [hbe, List.length_append, HNB.out]; rfl
            have HOA := Lib.hid (show wA.ownsRow w5.heap.size 59 2 (.slice aA (nX + nB + 1) cA) (nX + nB + 1) ((X ++ behN F n (c + 1)).flatMap spc) from by
              have e1 : (X ++ behN F n (c + 1)).flatMap spc = X.flatMap spc ++ ((behN F n c).flatMap spc ++ [.int .i64 n, .int .i64 (c : Int)]) := by rw [hbe]; simp [spc]
              rw [e1]
              exact hownA)
            have HLA := Lib.hid (own_grown (own_ext HL8.out hAA) hgA (by
              cases hv : (Value.slice a6 np c6).ownBlock with
              | none => exact .inl rfl
              | some b => exact .inr fun e => HSQ.out b e.symm hv))
            have HSA := Lib.hid (show ∀ b, (Value.slice aA (nX + nB + 1) cA).ownBlock = some b → (Value.slice a6 np c6).ownBlock ≠ some b from fun b h1 h2 => by
              rcases hbA with h | h
              · rw [h] at h1; exact HSQ.out b h1 h2
              · rw [h] at h1
                injection h1 with h1
                have := (HL8.out.lt b h2).2
                first | omega | (simp at h1; omega))
            have HB3 := Lib.hid hbl3
            clear hownA hgA hbA hAA hbe hbl3
            go_wp2_with fail
            go_roundg (gk - 1)
            case measure => have := HGC.out; omega
            case rel => exact ⟨c + 1, aA, cA, by have := HGC.out; omega, by go_num, by rw [HB3.out]; rfl, HEA.out, by rw [HB3.out]; exact HOA.out, by rw [HB3.out]; exact HSA.out, HLA.out⟩
        · have hcn : c = N := by have := HGC.out; omega
          have hcI : ¬ (c : Int) < (N : Int) := by omega
          have hlen : (behL F N (ns.take (i + 1))).length = nX + (behN F n c).length := by rw [HSC.out, List.length_append, HNX2.out, hcn]
          have HFL := Lib.hid hlen
          have HOF := Lib.hid (show wr.ownsRow w5.heap.size 59 2 (.slice ab' (nX + (behN F n c).length) cb') (nX + (behN F n c).length) ((behL F N (ns.take (i + 1))).flatMap spc) from by
            rw [HSC.out, ← hcn]
            exact hO)
          clear hgc hE hO hSep hL hcn hlen
          go_wp2_with fail
          go_roundg (G0 - 1)
          case measure => have := HGI.out; omega
          case rel => exact ⟨i + 1, ab', cb', by have := HGI.out; omega, by go_num, by rw [HFL.out], HEQ.out, by rw [HFL.out]; exact HOF.out⟩
    · have hin : i = ns.length := by have := HGI.out; omega
      have hiI : ¬ (i : Int) < (ns.length : Int) := by omega
      have HOF := Lib.hid (show wr.ownsRow w5.heap.size 59 2 (.slice ab (behL F N (ns.take i)).length cb) (behL F N ns).length ((behL F N ns).flatMap spc) from by
        have h := hO
        rw [hin, List.take_length] at h ⊢
        exact h)
      have HEF := Lib.hid (HE.out.trans (HY5.out.trans hE))
      have hs5 := (HE.out.trans HY5.out).size
      clear hgi hE hO hin
      go_wp2
      go_ret2
      exact ⟨_, rfl, own_down HOF.out hs5, HEF.out⟩

end Go.Proofs.YtkkbefhnklpfaaaDoor

namespace Go.Proofs.YtkkbefhnklpfaaaDoor

/-- What a claim's bit has to be. -/
def rhsB (k : Int) (es : List Int) (now next : List Bool) (i : Nat) : Bool :=
  if k = 14 then next.getD (i + 1) false
  else if k = 17 then (now.getD (i + 1) false || next.getD i false)
  else if k = 18 then (now.getD (i + 1) false && next.getD i false)
  else if k = 15 then (now.getD (secAt es i) false || (now.getD (i + 1) false && next.getD i false))
  else (now.getD (secAt es i) false && (now.getD (i + 1) false || next.getD i false))
theorem keepB_eq (k : Int) (es : List Int) (now next : List Bool) (i : Nat) : keepB k es now next i = (now.getD i false == rhsB k es now next i) := by
  unfold keepB rhsB
  split
  · rfl
  · split
    · rfl
    · split
      · rfl
      · split <;> rfl

theorem cntA_mono (l : List Op2) {i j : Nat} (h : i ≤ j) : cntA (l.take i) ≤ cntA (l.take j) := by
  have e : l.take i = (l.take j).take i := by rw [List.take_take, Nat.min_eq_left h]
  rw [e]
  exact cntA_take_le _ _

section
variable {t : Tm} (ht : t.ok) {props : Int} (hfit : ∀ o ∈ t.flat, FitOp props o)
include ht hfit

/-- A truth hangs on the bits of its own places and of those behind alone. -/
theorem tv_agree (L : List Bool) (c c' : Nat) : ∀ (g q : Nat), t.size - q ≤ g → (∀ b, cntA (t.flat.take q) ≤ b → c.testBit b = c'.testBit b) → (tvT L c t 0).getD q false = (tvT L c' t 0).getD q false := by
  intro g
  induction g with
  | zero =>
    intro q hq _
    have h1 : (tvT L c t 0).length ≤ q := by rw [tvT_len]; omega
    have h2 : (tvT L c' t 0).length ≤ q := by rw [tvT_len]; omega
    simp [List.getD, List.getElem?_eq_none h1, List.getElem?_eq_none h2]
  | succ g ih =>
    intro q hq hb
    by_cases hs : q < t.size
    · have hqf : q < t.flat.length := by rw [Tm.flat_len]; exact hs
      obtain ⟨k, v, ho⟩ : ∃ k v, t.flat[q]? = some (k, v) := ⟨t.flat[q].1, t.flat[q].2, by rw [List.getElem?_eq_getElem hqf]⟩
      have hf := hfit (k, v) (List.mem_of_getElem? ho)
      have a1 := tv_at L c t ht q k v ho
      have a2 := tv_at L c' t ht q k v ho
      have hn : (tvT L c t 0).getD (q + 1) false = (tvT L c' t 0).getD (q + 1) false := ih (q + 1) (by omega) fun b hbb => hb b (Nat.le_trans (cntA_mono _ (Nat.le_succ q)) hbb)
      obtain ⟨f1, f2, f3, f4⟩ := hf
      simp only at f1 f2 f3 f4
      by_cases hah : aheadB k = true
      · rw [getD_of (a1.ah hah), getD_of (a2.ah hah)]
        exact hb _ (Nat.le_refl _)
      · have hk : k = 8 ∨ k = 9 ∨ k = 10 ∨ k = 11 ∨ k = 12 ∨ k = 13 := by
          have : ¬ (14 ≤ k ∧ k ≤ 18) := by simpa [aheadB] using hah
          omega
        have hsec : k = 8 ∨ k = 9 → (tvT L c t 0).getD (secAt (t.ends 0) q) false = (tvT L c' t 0).getD (secAt (t.ends 0) q) false := fun hk2 => by
          have hp2 : partsOf k = 2 := by rcases hk2 with rfl | rfl <;> rfl
          obtain ⟨_, s1, s2⟩ := a1.two hp2
          exact ih _ (by omega) fun b hbb => hb b (Nat.le_trans (cntA_mono _ (by omega)) hbb)
        rcases hk with rfl | rfl | rfl | rfl | rfl | rfl
        · rw [getD_of (a1.and rfl), getD_of (a2.and rfl), hn, hsec (.inl rfl)]
        · rw [getD_of (a1.or rfl), getD_of (a2.or rfl), hn, hsec (.inr rfl)]
        · rw [getD_of (a1.not rfl), getD_of (a2.not rfl), hn]
        · rw [getD_of (a1.yes rfl), getD_of (a2.yes rfl)]
        · rw [getD_of (a1.no rfl), getD_of (a2.no rfl)]
        · rw [getD_of (a1.prop rfl), getD_of (a2.prop rfl)]
    · have h1 : (tvT L c t 0).length ≤ q := by rw [tvT_len]; omega
      have h2 : (tvT L c' t 0).length ≤ q := by rw [tvT_len]; omega
      simp [List.getD, List.getElem?_eq_none h1, List.getElem?_eq_none h2]

theorem rhs_agree (L : List Bool) (c c' : Nat) (next : List Bool) (p : Nat) (hp : p < t.size) (ha : aheadB (t.flat.getD p (0, 0)).1 = true) (hb : ∀ b, cntA (t.flat.take p) < b → c.testBit b = c'.testBit b) :
    rhsB (t.flat.getD p (0, 0)).1 (t.ends 0) (tvT L c t 0) next p = rhsB (t.flat.getD p (0, 0)).1 (t.ends 0) (tvT L c' t 0) next p := by
  have hpf : p < t.flat.length := by rw [Tm.flat_len]; exact hp
  obtain ⟨k, v, ho⟩ : ∃ k v, t.flat[p]? = some (k, v) := ⟨t.flat[p].1, t.flat[p].2, by rw [List.getElem?_eq_getElem hpf]⟩
  rw [getD_op ho] at ha ⊢
  have hc1 : cntA (t.flat.take (p + 1)) = cntA (t.flat.take p) + 1 := by
    rw [cntA_take _ hpf]
    have : t.flat[p].1 = k := by rw [List.getElem?_eq_getElem hpf] at ho; injection ho with ho; rw [ho]
    rw [this, if_pos ha]
  have hn : (tvT L c t 0).getD (p + 1) false = (tvT L c' t 0).getD (p + 1) false := tv_agree ht hfit L c c' t.size (p + 1) (by omega) fun b hbb => hb b (by omega)
  have a1 := tv_at L c t ht p k v ho
  have hsec : k = 15 ∨ k = 16 → (tvT L c t 0).getD (secAt (t.ends 0) p) false = (tvT L c' t 0).getD (secAt (t.ends 0) p) false := fun hk2 => by
    have hp2 : partsOf k = 2 := by rcases hk2 with rfl | rfl <;> rfl
    obtain ⟨_, s1, s2⟩ := a1.two hp2
    have := cntA_mono t.flat (show p + 1 ≤ secAt (t.ends 0) p by omega)
    exact tv_agree ht hfit L c c' t.size _ (by omega) fun b hbb => hb b (by omega)
  have hk : 14 ≤ k ∧ k ≤ 18 := by simpa [aheadB] using ha
  unfold rhsB
  by_cases h14 : k = 14
  · rw [if_pos h14, if_pos h14]
  · rw [if_neg h14, if_neg h14]
    by_cases h17 : k = 17
    · rw [if_pos h17, if_pos h17, hn]
    · rw [if_neg h17, if_neg h17]
      by_cases h18 : k = 18
      · rw [if_pos h18, if_pos h18, hn]
      · rw [if_neg h18, if_neg h18]
        rw [hn, hsec (by omega)]

theorem claim_back (L : List Bool) (next : List Bool) : ∀ m, m ≤ t.size → ∃ c, c < 2 ^ cntA t.flat ∧ ∀ p, t.size - m ≤ p → p < t.size → aheadB (t.flat.getD p (0, 0)).1 = true → keepB (t.flat.getD p (0, 0)).1 (t.ends 0) (tvT L c t 0) next p = true := by
  intro m
  induction m with
  | zero => intro _; exact ⟨0, Nat.two_pow_pos _, fun p h1 h2 => by omega⟩
  | succ m ih =>
    intro hm
    obtain ⟨c, hc, hk⟩ := ih (by omega)
    obtain ⟨p0, hp0⟩ : ∃ p0, t.size - (m + 1) = p0 := ⟨_, rfl⟩
    have hp : p0 < t.size := by omega
    have hpf : p0 < t.flat.length := by rw [Tm.flat_len]; exact hp
    by_cases ha : aheadB (t.flat.getD p0 (0, 0)).1 = true
    · obtain ⟨r, hr⟩ : ∃ r, rhsB (t.flat.getD p0 (0, 0)).1 (t.ends 0) (tvT L c t 0) next p0 = r := ⟨_, rfl⟩
      obtain ⟨j, hj⟩ : ∃ j, cntA (t.flat.take p0) = j := ⟨_, rfl⟩
      obtain ⟨k, v, ho⟩ : ∃ k v, t.flat[p0]? = some (k, v) := ⟨t.flat[p0].1, t.flat[p0].2, by rw [List.getElem?_eq_getElem hpf]⟩
      have hak : aheadB k = true := by rw [getD_op ho] at ha; exact ha
      have hc1 : cntA (t.flat.take (p0 + 1)) = j + 1 := by
        rw [cntA_take _ hpf, hj]
        have : t.flat[p0].1 = k := by rw [List.getElem?_eq_getElem hpf] at ho; injection ho with ho; rw [ho]
        rw [this, if_pos hak]
      have hjl : j < cntA t.flat := by have := cntA_take_le t.flat (p0 + 1); omega
      obtain ⟨c', hc', hbit, hoth⟩ : ∃ c', c' < 2 ^ cntA t.flat ∧ c'.testBit j = r ∧ ∀ b, b ≠ j → c.testBit b = c'.testBit b := by
        by_cases e : c.testBit j = r
        · exact ⟨c, hc, e, fun _ _ => rfl⟩
        · refine ⟨c ^^^ 2 ^ j, Nat.xor_lt_two_pow hc (Nat.pow_lt_pow_right (by omega) hjl), ?_, fun b hb => ?_⟩
          · rw [Nat.testBit_xor, Nat.testBit_two_pow]
            cases hcb : c.testBit j <;> cases r <;> simp_all
          · rw [Nat.testBit_xor, Nat.testBit_two_pow]
            have : ¬ j = b := fun e => hb e.symm
            simp [this]
      refine ⟨c', hc', fun p h1 h2 h3 => ?_⟩
      rw [keepB_eq]
      by_cases e : p = p0
      · subst e
        have h4 := rhs_agree ht hfit L c c' next p h2 h3 fun b hb => hoth b (by omega)
        rw [← h4, hr]
        have h5 := (tv_at L c' t ht p k v ho).ah hak
        rw [getD_of h5, hj, hbit]
        simp
      · have h4 := hk p (by omega) h2 h3
        rw [keepB_eq] at h4
        have hgt := cntA_mono t.flat (show p0 + 1 ≤ p by omega)
        have h5 := rhs_agree ht hfit L c c' next p h2 h3 fun b hb => hoth b (by omega)
        have h6 := tv_agree ht hfit L c c' t.size p (by omega) fun b hb => hoth b (by omega)
        rw [← h5, ← h6]
        exact h4
    · refine ⟨c, hc, fun p h1 h2 h3 => ?_⟩
      by_cases e : p = p0
      · subst e; exact absurd h3 ha
      · exact hk p (by omega) h2 h3

theorem fol_back (L : List Bool) (next : List Bool) : ∃ c, c < 2 ^ cntA t.flat ∧ folB t.flat (t.ends 0) (tvT L c t 0) next t.flat.length = true := by
  obtain ⟨c, hc, hk⟩ := claim_back ht hfit L next t.size (Nat.le_refl _)
  refine ⟨c, hc, (folB_iff _ _ _ _ _).2 fun p hp ha => hk p (by omega) (by rw [← Tm.flat_len]; exact hp) ha⟩
end

end Go.Proofs.YtkkbefhnklpfaaaDoor

namespace Go.Proofs.YtkkbefhnklpfaaaDoor
open Go.RowKit

set_option maxRecDepth 100000 in
set_option maxHeartbeats 8000000 in
theorem pbehind_no (vv rv pv fv : Value) (m : Md) (P : List Tm) (t : Tm) (s : Int) (cl : Nat) (w : World) (h : IsTask w vv rv pv fv m P t) (ht : Tab w) (hk : TkOk m P t) (hs0 : 0 ≤ s) (hs1 : s < countL m.vars) (hc0 : ¬ cl < 2 ^ cntA t.flat) :
    Calls Tryd.prog 21 #[.agg #[vv, rv, pv, fv], .agg #[.int .i64 s, .int .i64 (cl : Int)]] w fun e w' => e = .returned (.tuple #[.slice none 0 0, .int .i64 9]) ∧ Ext w w' := by
  have HCK := Lib.hid fun wx (hx : Ext w wx) => pcheck_any vv rv pv fv m P t wx (h.ext hx) (ht.ext hx) hk
  have HSP := Lib.hid fun wx (hx : Ext w wx) => (show Calls Tryd.prog 39 #[.agg #[vv, rv, pv, fv], .agg #[.int .i64 s, .int .i64 (cl : Int)]] wx fun e w' => e = .returned (.bool false) ∧ Ext wx w' from by
    have h1 := spot_ok vv rv pv fv m P t s (cl : Int) wx (h.ext hx) (ht.ext hx) hk hs0 hs1 (by omega)
    rw [decide_eq_false (show ¬ (cl : Int) < ((2 ^ cntA t.flat : Nat) : Int) by omega)] at h1
    exact h1)
  obtain ⟨av, cv, ar, cr, ap, cp, af, nf, cf, rfl, rfl, rfl, rfl⟩ := h.val
  clear h ht hk hc0
  generalize m.vars.length = nv at *
  generalize m.rules.length = nr at *
  generalize P.length = np at *
  have hb := blk_new w (Obj.cells #[.slice av nv cv, .slice ar nr cr, .slice ap np cp, .slice af nf cf] 49)
  have hx := ext_al (Ext.refl (w.alloc (Obj.cells #[.slice av nv cv, .slice ar nr cr, .slice ap np cp, .slice af nf cf] 49))) (Obj.cells #[.int .i64 s, .int .i64 (cl : Int)] 59)
  have hb2 := blk_new (w.alloc (Obj.cells #[.slice av nv cv, .slice ar nr cr, .slice ap np cp, .slice af nf cf] 49)) (Obj.cells #[.int .i64 s, .int .i64 (cl : Int)] 59)
  rw [World.size_alloc] at hb2
  have HE := Lib.hid ((ext_al (Ext.refl w) (Obj.cells #[.slice av nv cv, .slice ar nr cr, .slice ap np cp, .slice af nf cf] 49)).trans hx)
  have HB := Lib.hid (blk_ext hb hx)
  have HS := Lib.hid hb2
  have d0 := blk_cell HB.out (i := 0) rfl
  have d1 := blk_cell HB.out (i := 1) rfl
  have d2 := blk_cell HB.out (i := 2) rfl
  have d3 := blk_cell HB.out (i := 3) rfl
  clear hb hx hb2
  go_enter Tryd.func21, Tryd.ntmps21
  go_wp2_with fail
  generalize (w.alloc (Obj.cells #[.slice av nv cv, .slice ar nr cr, .slice ap np cp, .slice af nf cf] 49)).alloc (Obj.cells #[.int .i64 s, .int .i64 (cl : Int)] 59) = W1 at *
  refine (HCK.out _ HE.out).mono ?_
  rintro e w2 ⟨rfl, hE2⟩
  have HY2 := Lib.hid hE2
  have d0 := blk_cell (blk_ext HB.out hE2) (i := 0) rfl
  have d1 := blk_cell (blk_ext HB.out hE2) (i := 1) rfl
  have d2 := blk_cell (blk_ext HB.out hE2) (i := 2) rfl
  have d3 := blk_cell (blk_ext HB.out hE2) (i := 3) rfl
  have s0 := blk_cell (blk_ext HS.out hE2) (i := 0) rfl
  have s1 := blk_cell (blk_ext HS.out hE2) (i := 1) rfl
  clear hE2
  go_wp2_with fail
  refine (HSP.out _ (HE.out.trans HY2.out)).mono ?_
  rintro e w3 ⟨rfl, hE3⟩
  have HEF := Lib.hid (HE.out.trans (HY2.out.trans hE3))
  clear hE3 d0 d1 d2 d3 s0 s1
  go_wp2
  go_ret2
  exact ⟨rfl, HEF.out⟩

theorem behL_in {F : Int → Nat → Bool} {N : Nat} {ns : List Int} {x : Int × Int} (h : x ∈ behL F N ns) : x.1 ∈ ns := by
  unfold behL at h
  obtain ⟨n, hn, hx⟩ := List.mem_flatMap.1 h
  unfold behN at hx
  obtain ⟨c, _, rfl⟩ := List.mem_map.1 hx
  exact hn
theorem behL_has {F : Int → Nat → Bool} {N : Nat} {ns : List Int} {n : Int} {c : Nat} (hn : n ∈ ns) (hc : c < N) (hf : F n c = true) : n ∈ (behL F N ns).map (·.1) := by
  refine List.mem_map.2 ⟨(n, (c : Int)), ?_, rfl⟩
  unfold behL
  refine List.mem_flatMap.2 ⟨n, hn, ?_⟩
  unfold behN
  exact List.mem_map.2 ⟨c, List.mem_filter.2 ⟨by simpa using hc, hf⟩, rfl⟩

set_option maxRecDepth 100000 in
set_option maxHeartbeats 16000000 in
theorem behindNext_walk (pv fr : Value) (d : Dn) (raw : List Op2) (code : Int) (W : World) (ht : Tab W) (hpl : IsPlans W pv d.rules) (hd : DnI d) (hr : Ops W fr raw) (hR : RawF raw) (hcode : I64 code) :
    Calls Tryd.prog 6 #[.agg (dnc d pv), fr, .int .i64 code] W fun e w' => e = .returned (.bool true) ∧ Ext W w' := by
  have EE := ext_al (Ext.refl W) (Obj.cells (dnc d pv) 25)
  have HTA := Lib.hid (task_any pv fr d raw 2 _ (hpl.ext EE) hd (ops_ext hr EE) hR (by omega))
  have HK := Lib.hid (task_ok d raw 2 (by omega))
  have HFT := Lib.hid (fT_fit raw 3 4 0 2)
  have hcn := forO_cnt raw 2
  have HFB := Lib.hid fun L next => fol_back (t := forO raw 3 2) (fT_ok raw 3 4 0 2) (fT_fit raw 3 4 0 2) L next
  have hn1 := d.drawn.n1
  have hn16 := d.drawn.n16
  have HEE := Lib.hid EE
  have HTB := Lib.hid (ht.ext EE)
  obtain ⟨ar0, cr0, rfl, _⟩ := id hr
  obtain ⟨hcd1, hcd2⟩ := hcode
  clear HFT
  generalize forO raw 3 2 = t at *
  generalize d.md = m at *
  simp only [dnc] at HTA HEE HTB ⊢
  generalize raw.length = nraw at *
  clear ht hpl hd hr hR EE
  go_enter Tryd.func6, Tryd.ntmps6
  go_wp2_with fail
  generalize W.alloc (Obj.cells #[.int .i64 d.s0, .int .i64 d.s1, .int .i64 d.l0, .int .i64 d.l1, .int .i64 d.i0, .int .i64 d.i1, pv] 25) = W0 at *
  refine HTA.out.mono ?_
  rintro e w1 ⟨vv, rv, qv, fv, rfl, hT1, hE1⟩
  obtain ⟨av, cv, ar, cr, ap, cp, af, nf, cf, rfl, rfl, rfl, rfl⟩ := hT1.val
  have HT1 := Lib.hid hT1
  have HX1 := Lib.hid (HEE.out.trans hE1)
  have HTB1 := Lib.hid (HTB.out.ext hE1)
  clear hT1 hE1 HTA HTB
  have hbp := pk_bd code (countL m.vars) (by omega)
  obtain ⟨k, hk⟩ : ∃ k, pk code (countL m.vars) = k := ⟨_, rfl⟩
  rw [hk] at hbp
  have HPK := Lib.hid fun wx => (show Calls Tryd.prog 10 #[.int .i64 code, .int .i64 (countL m.vars)] wx _ from picked_any code (countL m.vars) wx hcd1 hcd2 (by omega) (by omega))
  rw [hk] at HPK
  have HCO := Lib.hid fun wx (hx : Ext w1 wx) => count_any _ _ m wx (HT1.out.md.ext hx) (HTB1.out.ext hx) HK.out.ok
  have HNX := Lib.hid fun wx (hx : Ext w1 wx) => nextE_any _ _ m k wx (HT1.out.md.ext hx) (HTB1.out.ext hx) HK.out.ok HK.out.v0 hbp.1 hbp.2
  have HBY := Lib.hid fun (cl : Nat) wx (hx : Ext w1 wx) (hc : cl < 2 ^ cntA t.flat) => pbehind_any _ _ _ _ m propT t k cl wx (HT1.out.ext hx) (HTB1.out.ext hx) HK.out hbp.1 hbp.2 hc
  have HBN := Lib.hid fun (cl : Nat) wx (hx : Ext w1 wx) (hc : ¬ cl < 2 ^ cntA t.flat) => pbehind_no _ _ _ _ m propT t k cl wx (HT1.out.ext hx) (HTB1.out.ext hx) HK.out hbp.1 hbp.2 hc
  have HFX := Lib.hid fun (n : Int) => (show ∃ cl, cl < 2 ^ cntA t.flat ∧ folX m propT t k cl n 0 = true from HFB.out (letS propT (valsL m.vars k)) (tvT (letS propT (valsL m.vars n)) 0 t 0))
  have hl1 := (nextL_len m k).1
  have hl12 : (nextL m k).length ≤ 12 := by have := (nextL_len m k).2; have := HK.out.ok.twelve; omega
  have hp4 : 2 ^ cntA t.flat ≤ 4 := by
    have := Nat.pow_le_pow_right (n := 2) (by omega) hcn
    simpa using this
  have hp0 : 0 < 2 ^ cntA t.flat := Nat.two_pow_pos _
  obtain ⟨N, hN⟩ : ∃ x, 2 ^ cntA t.flat = x := ⟨_, rfl⟩
  rw [hN] at HBY HBN HFX hp4 hp0
  obtain ⟨C, hC⟩ : ∃ x, countL m.vars = x := ⟨_, rfl⟩
  rw [hC] at HPK HCO hn1 hn16
  generalize folX m propT t k = F at *
  generalize nextL m k = ns at *
  clear hk hbp hN hC hcn HFB
  generalize m.vars.length = nv at *
  generalize m.rules.length = nr at *
  generalize propT.length = np at *
  have HQ5 := Lib.hid (blk_new w1 (Obj.cells #[.slice av nv cv, .slice ar nr cr, .slice ap np cp, .slice af nf cf] 49))
  have HXA := Lib.hid (ext_al (Ext.refl w1) (Obj.cells #[.slice av nv cv, .slice ar nr cr, .slice ap np cp, .slice af nf cf] 49))
  have d0 := blk_cell HQ5.out (i := 0) rfl
  have d1 := blk_cell HQ5.out (i := 1) rfl
  have hC1 : ¬ C < 1 := by omega
  go_wp2_with fail
  generalize w1.alloc (Obj.cells #[.slice av nv cv, .slice ar nr cr, .slice ap np cp, .slice af nf cf] 49) = W2 at *
  refine (HCO.out _ HXA.out).mono ?_
  rintro e w3 ⟨rfl, hE3⟩
  have HY3 := Lib.hid hE3
  have d0 := cell_later hE3 d0
  have d1 := cell_later hE3 d1
  clear hE3
  go_wp2_with fail
  refine (HPK.out _).mono ?_
  rintro e w' ⟨rfl, rfl⟩
  go_wp2_with fail
  refine (HNX.out _ (HXA.out.trans HY3.out)).mono ?_
  rintro e w5 ⟨v5, rfl, ho5, hE5⟩
  obtain ⟨Q5, c5, rfl⟩ := own_shape ho5 hl1
  have HY5 := Lib.hid (HY3.out.trans hE5)
  have HO5 := Lib.hid ho5
  have HI5 := Lib.hid (show Ints w5 (.slice (some ⟨Q5, 0, none⟩) ns.length c5) ns from ho5.reads)
  have HHN := Lib.hid fun (x : Int) wx (hx : Ext w5 wx) (hm : x ∈ ns) => has_yes _ ns x wx (HI5.out.ext hx) hm
  have HO0 := Lib.hid (show w5.ownsRow w5.heap.size 3 1 (.slice none 0 0) ([] : List Int).length (([] : List Int).map (.int .i64)) from World.ownsRow_nil _ _ _ _)
  clear hE5 ho5 d0 d1 HCO HPK HNX
  go_wp2_with fail
  go_loopg [14, 13] 4 (fun g x y wr => ∃ (cl : Nat) (M : List Int) (am : Option Addr) (cm : Nat), g + cl = 4 ∧ x = .int .i64 (cl : Int) ∧ y = .slice am M.length cm ∧ Ext w5 wr ∧ wr.ownsRow w5.heap.size 3 1 (.slice am M.length cm) M.length (M.map (.int .i64)) ∧ M.length ≤ 48 * cl ∧ ∀ cl', cl' < cl → cl' < N → ∀ n ∈ ns, ∀ c, c < N → F cl' n c = true → n ∈ M)
  case atStart => exact ⟨0, [], none, 0, by omega, by go_num, rfl, Ext.refl _, HO0.out, by simp, fun cl' h => by omega⟩
  case round =>
    obtain ⟨cl, M, am, cm, hgc, rfl, rfl, hE, hO, hM48, hMn⟩ := hrel
    have HGC := Lib.hid hgc
    have HEE2 := Lib.hid hE
    have HOO := Lib.hid hO
    have HMN := Lib.hid hMn
    obtain ⟨nM, hnM⟩ : ∃ x, M.length = x := ⟨_, rfl⟩
    rw [hnM] at HOO hM48 ⊢
    have HNM := Lib.hid hnM
    clear HO0 hgc hO hMn hnM
    by_cases hc : cl < 4
    · have hbr := blk_ext HQ5.out (HY5.out.trans hE)
      have d0 := blk_cell hbr (i := 0) rfl
      have d1 := blk_cell hbr (i := 1) rfl
      have d2 := blk_cell hbr (i := 2) rfl
      have d3 := blk_cell hbr (i := 3) rfl
      have hcI : (cl : Int) < 4 := by omega
      have hcI0 : (0 : Int) ≤ (cl : Int) := by omega
      clear hbr
      by_cases hcN : cl < N
      · have HBC := Lib.hid (HBY.out cl wr (HXA.out.trans (HY5.out.trans hE)) hcN)
        have hBl := behL_len (F cl) N ns
        have hBl2 : (behL (F cl) N ns).length ≤ 48 := Nat.le_trans hBl (Nat.le_trans (Nat.mul_le_mul hl12 hp4) (by omega))
        have HBI := Lib.hid fun x (hx : x ∈ behL (F cl) N ns) => behL_in hx
        have HBH := Lib.hid fun n c (hn : n ∈ ns) (hc : c < N) (hf : F cl n c = true) => behL_has hn hc hf
        generalize behL (F cl) N ns = B at *
        clear hBl hE
        go_wp2_with fail
        refine HBC.out.mono ?_
        rintro e w6 ⟨v6, rfl, ho6, hE6⟩
        obtain ⟨a6, c6, rfl, _⟩ := id ho6.row
        have HY6 := Lib.hid (HEE2.out.trans hE6)
        have HO6 := Lib.hid ho6
        have HM6 := Lib.hid (own_ext HOO.out hE6)
        have HSEP := Lib.hid (show ∀ b, (Value.slice am nM cm).ownBlock = some b → (Value.slice a6 B.length c6).ownBlock ≠ some b from fun b h1 h2 => by
          have := (HOO.out.lt b h1).2
          have := (ho6.lt b h2).1
          omega)
        obtain ⟨B6, hB6⟩ : ∃ x, wr.heap.size = x := ⟨_, rfl⟩
        rw [hB6] at HO6
        clear hE6 ho6 hB6 d0 d1 d2 d3
        go_wp2_with fail
        obtain ⟨wo, rfl⟩ : ∃ wo : World, wo = wr := ⟨_, rfl⟩
        obtain ⟨G0, rfl⟩ : ∃ G0 : Nat, G0 = gk := ⟨_, rfl⟩
        go_loopg [17, 13] B.length (fun g x y wq => ∃ (i : Nat) (am' : Option Addr) (cm' : Nat), g + i = B.length ∧ x = .int .i64 (i : Int) ∧ y = .slice am' (nM + i) cm' ∧ Ext w5 wq ∧ wq.ownsRow w5.heap.size 3 1 (.slice am' (nM + i) cm') (nM + i) ((M ++ (B.take i).map (·.1)).map (.int .i64)) ∧ (∀ b, (Value.slice am' (nM + i) cm').ownBlock = some b → (Value.slice a6 B.length c6).ownBlock ≠ some b) ∧ wq.ownsRow B6 59 2 (.slice a6 B.length c6) B.length (B.flatMap spc))
        case atStart => exact ⟨0, am, cm, by omega, by go_num, rfl, HY6.out, by simpa using HM6.out, HSEP.out, HO6.out⟩
        case round =>
          obtain ⟨i, am', cm', hgi, rfl, rfl, hE, hO, hSep, hB⟩ := hrel
          have HGI := Lib.hid hgi
          have HEQ := Lib.hid hE
          have HOQ := Lib.hid hO
          have HSQ := Lib.hid hSep
          have HBQ := Lib.hid hB
          by_cases hi : i < B.length
          · obtain ⟨_, _, e1, hrB⟩ := id hB.row
            simp only [Value.slice.injEq] at e1
            obtain ⟨rfl, -, rfl⟩ := e1
            obtain ⟨bS, oS, s1, s2⟩ := spots_at hrB
            obtain ⟨c0, _⟩ := s2 i hi
            obtain rfl := s1 (by omega)
            have hin := HBI.out B[i] (by simp)
            have HHX := Lib.hid (HHN.out B[i].1 wr hE hin)
            have HTK := Lib.hid (show M ++ (B.take (i + 1)).map (·.1) = (M ++ (B.take i).map (·.1)) ++ [B[i].1] by rw [List.take_succ_eq_append_getElem hi, List.map_append, List.append_assoc]; rfl)
            have hiI : (i : Int) < (B.length : Int) := by omega
            have hi0 : (0 : Int) ≤ (i : Int) := by omega
            generalize B[i].1 = n at *
            clear hgi hE hO hSep hB hrB s1 s2 hin
            go_wp2_with fail
            refine HHX.out.mono ?_
            rintro e w' ⟨rfl, rfl⟩
            have HO9 := Lib.hid fun (o : Obj) => own_ext HOQ.out (ext_al (Ext.refl wr) o)
            have hs8 := HEQ.out.size
            go_wp2_with (at_builtin; go_must (refine wpl_append rfl rfl Tryd.slInts w5.heap.size rfl (HO9.out _) rfl (Row.one _ _ _) (one_int _) (by unfold maxLen; omega) (by omega) (by simp; omega) ?_))
            intro vA wA hownA hgA hbA _
            obtain ⟨aA, cA, rfl, _⟩ := id hownA.row
            have hAA := ext_al (Ext.refl wr) (Obj.cells #[.int .i64 n] 3)
            have HEA := Lib.hid (show Ext w5 wA from Below.grown (HEQ.out.trans hAA) hgA (HEQ.out.trans hAA).size (fun b hb => ((HO9.out (Obj.cells #[] 0)).lt b hb).1))
            have HOA := Lib.hid (show wA.ownsRow w5.heap.size 3 1 (.slice aA (nM + i + 1) cA) (nM + i + 1) ((M ++ (B.take (i + 1)).map (·.1)).map (.int .i64)) from by
              have e1 : (M ++ (B.take (i + 1)).map (·.1)).map (Value.int .i64) = (M ++ (B.take i).map (·.1)).map (.int .i64) ++ [.int .i64 n] := by rw [HTK.out, List.map_append]; rfl
              rw [e1]
              simpa using hownA)
            have HLA := Lib.hid (own_grown (own_ext HBQ.out hAA) hgA (by
              cases hv : (Value.slice (some ⟨bS, oS, none⟩) B.length c6).ownBlock with
              | none => exact .inl rfl
              | some b => exact .inr fun e => HSQ.out b e.symm hv))
            have HSA := Lib.hid (show ∀ b, (Value.slice aA (nM + i + 1) cA).ownBlock = some b → (Value.slice (some ⟨bS, oS, none⟩) B.length c6).ownBlock ≠ some b from fun b h1 h2 => by
              rcases hbA with h | h
              · rw [h] at h1; exact HSQ.out b h1 h2
              · rw [h] at h1
                injection h1 with h1
                have := (HBQ.out.lt b h2).2
                first | omega | (simp at h1; omega))
            clear hownA hgA hbA hAA c0
            go_wp2_with fail
            go_roundg (gk - 1)
            case measure => have := HGI.out; omega
            case rel => exact ⟨i + 1, aA, cA, by have := HGI.out; omega, by go_num, rfl, HEA.out, HOA.out, HSA.out, HLA.out⟩
          · have hin : i = B.length := by have := HGI.out; omega
            have hiI : ¬ (i : Int) < (B.length : Int) := by omega
            have hlen : (M ++ B.map (·.1)).length = nM + i := by rw [List.length_append, List.length_map, HNM.out, hin]
            have HFL := Lib.hid hlen
            have HOF := Lib.hid (show wr.ownsRow w5.heap.size 3 1 (.slice am' (nM + i) cm') (nM + i) ((M ++ B.map (·.1)).map (.int .i64)) from by
              have h := hO
              rw [List.take_of_length_le (by omega)] at h
              exact h)
            have HM2 := Lib.hid (show nM + i ≤ 48 * (cl + 1) by omega)
            have HMX := Lib.hid (show ∀ cl', cl' < cl + 1 → cl' < N → ∀ n ∈ ns, ∀ c, c < N → F cl' n c = true → n ∈ M ++ B.map (·.1) from fun cl' h1 h2 n hn c hcc hf => by
              by_cases e : cl' = cl
              · subst e; exact List.mem_append_right _ (HBH.out n c hn hcc hf)
              · exact List.mem_append_left _ (HMN.out cl' (by omega) h2 n hn c hcc hf))
            clear hgi hE hO hSep hB hin hlen
            go_wp2_with fail
            go_roundg (G0 - 1)
            case measure => have := HGC.out; omega
            case rel => exact ⟨cl + 1, M ++ B.map (·.1), am', cm', by have := HGC.out; omega, by go_num, by rw [HFL.out], HEQ.out, by rw [HFL.out]; exact HOF.out, by rw [HFL.out]; exact HM2.out, HMX.out⟩
      · have HBC := Lib.hid (HBN.out cl wr (HXA.out.trans (HY5.out.trans hE)) hcN)
        have HMX := Lib.hid (show ∀ cl', cl' < cl + 1 → cl' < N → ∀ n ∈ ns, ∀ c, c < N → F cl' n c = true → n ∈ M from fun cl' h1 h2 n hn c hcc hf => HMN.out cl' (by omega) h2 n hn c hcc hf)
        clear hE
        go_wp2_with fail
        refine HBC.out.mono ?_
        rintro e w6 ⟨rfl, hE6⟩
        have HY6 := Lib.hid (HEE2.out.trans hE6)
        have HM6 := Lib.hid (own_ext HOO.out hE6)
        clear hE6 d0 d1 d2 d3
        go_wp2_with fail
        go_roundg (gk - 1)
        case measure => have := HGC.out; omega
        case rel => exact ⟨cl + 1, M, am, cm, by have := HGC.out; omega, by go_num, by rw [HNM.out], HY6.out, by rw [HNM.out]; exact HM6.out, by rw [HNM.out]; omega, HMX.out⟩
    · have hcI : ¬ (cl : Int) < 4 := by omega
      have HIM := Lib.hid (show Ints wr (.slice am nM cm) M from by
        have h := HOO.out.reads
        unfold Ints
        rw [HNM.out]
        exact h)
      have HHM := Lib.hid fun (x : Int) (hm : x ∈ M) => (show Calls Tryd.prog 18 #[.slice am nM cm, .int .i64 x] wr fun e w' => e = .returned (.bool true) ∧ wr = w' from has_yes _ M x wr HIM.out hm)
      have HAL := Lib.hid (show ∀ n ∈ ns, n ∈ M from fun n hn => by
        obtain ⟨c, hc1, hc2⟩ := HFX.out n
        exact HMN.out c (by omega) hc1 n hn 0 hp0 hc2)
      have HOE := Lib.hid (own_ext HO5.out hE)
      have HEF := Lib.hid (HX1.out.trans (HXA.out.trans (HY5.out.trans hE)))
      clear hE
      go_wp2_with fail
      obtain ⟨wo, rfl⟩ : ∃ wo : World, wo = wr := ⟨_, rfl⟩
      obtain ⟨G0, rfl⟩ : ∃ G0 : Nat, G0 = gk := ⟨_, rfl⟩
      go_loopg [18] ns.length (fun g x wq => ∃ i : Nat, g + i = ns.length ∧ x = .int .i64 (i : Int) ∧ wo = wq)
      case atStart => exact ⟨0, by omega, by go_num, rfl⟩
      case round =>
        obtain ⟨i, hgi, rfl, rfl⟩ := hrel
        have HGI := Lib.hid hgi
        clear hgi
        by_cases hi : i < ns.length
        · have cn := own_cellAt HOE.out (i := i) (by simpa using hi)
          rw [List.getElem_map] at cn
          have HHX := Lib.hid (HHM.out ns[i] (HAL.out _ (by simp)))
          have hiI : (i : Int) < (ns.length : Int) := by omega
          have hi0 : (0 : Int) ≤ (i : Int) := by omega
          generalize ns[i] = n at *
          go_wp2_with fail
          refine HHX.out.mono ?_
          rintro e w' ⟨rfl, rfl⟩
          go_wp2_with fail
          go_roundg (gk - 1)
          case measure => have := HGI.out; omega
          case rel => exact ⟨i + 1, by have := HGI.out; omega, by go_num, rfl⟩
        · have hiI : ¬ (i : Int) < (ns.length : Int) := by omega
          have hnl : (0 : Int) < (ns.length : Int) := by omega
          go_wp2
          go_ret
          exact ⟨rfl, HEF.out⟩

theorem behindNext_law (cs : Array Value) (v1 v2 : Value) (W : World) (ht : Tab W) (h0 : Cells Tryd.prog W 25 cs.toList) (h1 : Cells Tryd.prog W 46 [v1]) (h2 : Cells Tryd.prog W 3 [v2]) :
    Calls Tryd.prog 6 #[.agg cs, v1, v2] W fun e w' => e = .returned (.bool true) ∧ Ext W w' := by
  obtain ⟨d, pv, rfl, hpl, hd⟩ := design_of h0
  obtain ⟨raw, hr, hR⟩ := raw_for h1
  obtain ⟨n2, e2, i2⟩ := h2.i64 Tryd.underlying3
  cases e2
  exact behindNext_walk pv v1 d raw n2 W ht hpl hd hr hR i2

end Go.Proofs.YtkkbefhnklpfaaaDoor
