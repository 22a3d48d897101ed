/- Plain: laws of what holds of words without an end. No condition. -/
import Derived.Test.YthkiegaifkkegaaDoorRowP
namespace Go.Proofs.YthkiegaifkkegaaDoor
section
variable {n n' back back' : Nat} {h : Nat → Nat} (hb : back' < n') (hn : ∀ i, i < n' → h (nxt n' back' i) = nxt n back (h i))
include hb hn
theorem nxtN_map : ∀ j i, i < n' → h (nxtN n' back' j i) = nxtN n back j (h i)
  | 0, _, _ => rfl
  | j + 1, i, hi => by
    show h (nxtN n' back' j (nxt n' back' i)) = nxtN n back j (nxt n back (h i))
    rw [nxtN_map j _ (nxt_lt hb), hn i hi]
theorem until_map {a b a' b' : Nat → Prop} (ha : ∀ i, i < n' → (a' i ↔ a (h i))) (hbb : ∀ i, i < n' → (b' i ↔ b (h i))) (i : Nat) (hi : i < n') : UntilP n' back' a' b' i ↔ UntilP n back a b (h i) := by
  constructor
  · rintro ⟨j, h1, h2⟩
    exact ⟨j, by rw [← nxtN_map hb hn j i hi]; exact (hbb _ (nxtN_lt hb j i hi)).1 h1, fun m hm => by rw [← nxtN_map hb hn m i hi]; exact (ha _ (nxtN_lt hb m i hi)).1 (h2 m hm)⟩
  · rintro ⟨j, h1, h2⟩
    exact ⟨j, (hbb _ (nxtN_lt hb j i hi)).2 (by rw [nxtN_map hb hn j i hi]; exact h1), fun m hm => (ha _ (nxtN_lt hb m i hi)).2 (by rw [nxtN_map hb hn m i hi]; exact h2 m hm)⟩
theorem rel_map {a b a' b' : Nat → Prop} (ha : ∀ i, i < n' → (a' i ↔ a (h i))) (hbb : ∀ i, i < n' → (b' i ↔ b (h i))) (i : Nat) (hi : i < n') : RelP n' back' a' b' i ↔ RelP n back a b (h i) := by
  rw [rel_not, rel_not]
  exact not_congr (until_map hb hn (fun i hi => not_congr (ha i hi)) (fun i hi => not_congr (hbb i hi)) i hi)
end
theorem sat_map {W W' : Wd} {h : Nat → Nat} (hb : W'.back < W'.n) (hn : ∀ i, i < W'.n → h (nxt W'.n W'.back i) = nxt W.n W.back (h i)) (hl : ∀ i, i < W'.n → W'.ls.getD i [] = W.ls.getD (h i) []) (t : Tm) :
    ∀ i, i < W'.n → (Sat W' t i ↔ Sat W t (h i)) := by
  induction t with
  | n0 k v =>
    intro i hi
    unfold Sat
    rw [hl i hi]
  | n1 k v a ih =>
    intro i hi
    unfold Sat
    split
    · exact not_congr (ih i hi)
    · split
      · rw [← hn i hi]; exact ih _ (nxt_lt hb)
      · split
        · exact until_map (a := fun _ => True) (a' := fun _ => True) hb hn (fun _ _ => Iff.rfl) ih i hi
        · exact rel_map (a := fun _ => False) (a' := fun _ => False) hb hn (fun _ _ => Iff.rfl) ih i hi
  | n2 k v a b ih1 ih2 =>
    intro i hi
    unfold Sat
    split
    · exact and_congr (ih1 i hi) (ih2 i hi)
    · split
      · exact or_congr (ih1 i hi) (ih2 i hi)
      · split
        · exact until_map hb hn ih1 ih2 i hi
        · exact rel_map hb hn ih1 ih2 i hi
theorem satB_map {W W' : Wd} {h : Nat → Nat} (hb : W'.back < W'.n) (hn : ∀ i, i < W'.n → h (nxt W'.n W'.back i) = nxt W.n W.back (h i)) (hl : ∀ i, i < W'.n → W'.ls.getD i [] = W.ls.getD (h i) []) (t : Tm) (i : Nat) (hi : i < W'.n) :
    satB W' t i = satB W t (h i) := satB_eq ((sat_map hb hn hl t i hi).trans satB_iff.symm)
theorem word_twice (S L : List (List Bool)) (hL : 0 < L.length) (t : Tm) : satB ⟨S ++ (L ++ L), S.length⟩ t 0 = satB ⟨S ++ L, S.length⟩ t 0 := by
  refine satB_map (W := ⟨S ++ L, S.length⟩) (h := fun i => if i < (S ++ L).length then i else i - L.length) (by simp [Wd.n]; omega) ?_ ?_ t 0 (by simp [Wd.n]; omega) |>.trans ?_
  · intro i hi
    simp only [Wd.n, List.length_append] at hi ⊢
    unfold nxt
    split <;> split <;> split <;> first | omega | skip
    all_goals (try split) <;> (try split) <;> omega
  · intro i hi
    simp only [Wd.n, List.length_append] at hi ⊢
    simp only [List.getD]
    congr 1
    split
    · rw [← List.append_assoc, List.getElem?_append_left (by simpa using ‹_›)]
    · rw [← List.append_assoc, List.getElem?_append_right (by simp; omega), List.getElem?_append_right (by omega)]
      congr 1
      simp; omega
  · have e : (if 0 < (S ++ L).length then 0 else 0 - L.length) = 0 := by split <;> omega
    show satB _ t (if 0 < (S ++ L).length then 0 else 0 - L.length) = _
    rw [e]
theorem word_turned (S L : List (List Bool)) (x : List Bool) (t : Tm) : satB ⟨(S ++ [x]) ++ (L ++ [x]), S.length + 1⟩ t 0 = satB ⟨S ++ (x :: L), S.length⟩ t 0 := by
  refine satB_map (W := ⟨S ++ (x :: L), S.length⟩) (h := fun i => if i < S.length + L.length + 1 then i else S.length) (by simp [Wd.n]) ?_ ?_ t 0 (by simp [Wd.n]; omega) |>.trans ?_
  · intro i hi
    simp only [Wd.n, List.length_append, List.length_cons, List.length_nil] at hi ⊢
    unfold nxt
    split <;> split <;> split <;> first | omega | skip
    all_goals (try split) <;> (try split) <;> omega
  · intro i hi
    simp only [Wd.n, List.length_append, List.length_cons, List.length_nil] at hi ⊢
    simp only [List.getD]
    congr 1
    have e : (S ++ [x]) ++ (L ++ [x]) = (S ++ (x :: L)) ++ [x] := by simp
    rw [e]
    split
    · rw [List.getElem?_append_left (by simp; omega)]
    · have e2 : i = (S ++ (x :: L)).length := by simp; omega
      rw [e2]
      simp
  · have e : (if 0 < S.length + L.length + 1 then 0 else S.length) = 0 := by rw [if_pos (by omega)]
    show satB _ t (if 0 < S.length + L.length + 1 then 0 else S.length) = _
    rw [e]
theorem word_tail (S L : List (List Bool)) (x : List Bool) (hL : 0 < L.length) (v : Int) (t : Tm) : satB ⟨(x :: S) ++ L, S.length + 1⟩ (.n1 14 v t) 0 = satB ⟨S ++ L, S.length⟩ t 0 := by
  rw [satB_next]
  refine (satB_map (W := ⟨(x :: S) ++ L, S.length + 1⟩) (h := fun i => i + 1) (by simp [Wd.n]; omega) ?_ ?_ t 0 (by simp [Wd.n]; omega) |>.trans ?_).symm
  · intro i hi
    simp only [Wd.n, List.length_append, List.length_cons] at hi ⊢
    unfold nxt
    split <;> split <;> omega
  · intro i hi
    simp
  · congr 1
    simp only [Wd.n, List.length_append, List.length_cons]
    unfold nxt
    rw [if_pos (by omega)]
theorem word_turn (L : List (List Bool)) (x : List Bool) (v : Int) (t : Tm) : satB ⟨x :: L, 0⟩ (.n1 14 v t) 0 = satB ⟨L ++ [x], 0⟩ t 0 := by
  rw [satB_next]
  refine (satB_map (W := ⟨x :: L, 0⟩) (h := fun i => if i + 1 < L.length + 1 then i + 1 else 0) (by simp [Wd.n]) ?_ ?_ t 0 (by simp [Wd.n]) |>.trans ?_).symm
  · intro i hi
    simp only [Wd.n, List.length_append, List.length_cons, List.length_nil] at hi ⊢
    unfold nxt
    split <;> split <;> first | omega | skip
    all_goals (try split) <;> (try split) <;> omega
  · intro i hi
    simp only [Wd.n, List.length_append, List.length_cons, List.length_nil] at hi ⊢
    simp only [List.getD]
    congr 1
    split
    · rw [List.getElem?_append_left (by omega)]; simp
    · have e2 : i = L.length := by omega
      subst e2; simp
  · rfl
section
variable {n back : Nat} {a b c : Nat → Prop} {i : Nat}
theorem fin_iff : UntilP n back (fun _ => True) b i ↔ ∃ j, b (nxtN n back j i) := ⟨fun ⟨j, h, _⟩ => ⟨j, h⟩, fun ⟨j, h⟩ => ⟨j, h, fun _ _ => trivial⟩⟩
theorem glo_iff : RelP n back (fun _ => False) b i ↔ ∀ j, b (nxtN n back j i) := ⟨fun h j => (h j).elim id fun ⟨_, _, h⟩ => h.elim, fun h j => .inl (h j)⟩
theorem until_or : UntilP n back a (fun x => b x ∨ c x) i ↔ UntilP n back a b i ∨ UntilP n back a c i := by
  constructor
  · rintro ⟨j, h | h, h2⟩
    · exact .inl ⟨j, h, h2⟩
    · exact .inr ⟨j, h, h2⟩
  · rintro (⟨j, h, h2⟩ | ⟨j, h, h2⟩)
    · exact ⟨j, .inl h, h2⟩
    · exact ⟨j, .inr h, h2⟩
theorem until_and : UntilP n back (fun x => a x ∧ b x) c i ↔ UntilP n back a c i ∧ UntilP n back b c i := by
  constructor
  · rintro ⟨j, h, h2⟩
    exact ⟨⟨j, h, fun m hm => (h2 m hm).1⟩, j, h, fun m hm => (h2 m hm).2⟩
  · rintro ⟨⟨j, h, h2⟩, k, g, g2⟩
    by_cases hjk : j ≤ k
    · exact ⟨j, h, fun m hm => ⟨h2 m hm, g2 m (by omega)⟩⟩
    · exact ⟨k, g, fun m hm => ⟨h2 m (by omega), g2 m hm⟩⟩
theorem until_twice : UntilP n back a (UntilP n back a b) i ↔ UntilP n back a b i := by
  constructor
  · rintro ⟨j, ⟨k, h, h2⟩, g⟩
    rw [← nxtN_add] at h
    refine ⟨j + k, h, fun m hm => ?_⟩
    by_cases hmj : m < j
    · exact g m hmj
    · have := h2 (m - j) (by omega)
      rw [← nxtN_add, show j + (m - j) = m by omega] at this
      exact this
  · intro h
    exact ⟨0, h, fun m hm => by omega⟩
theorem rel_twice : RelP n back a (RelP n back a b) i ↔ RelP n back a b i := by
  rw [rel_not, rel_not n back a b i]
  refine not_congr ?_
  rw [← until_twice (b := fun x => ¬ b x)]
  refine until_congr (fun _ => Iff.rfl) (fun j => ?_) i
  rw [rel_not]
  exact Classical.not_not
end
section
variable (W : Wd) (v v2 v3 v4 v5 v6 : Int) (f g h : Tm) (i : Nat)
theorem sat_fin : Sat W (.n1 17 v f) i ↔ ∃ j, Sat W f (nxtN W.n W.back j i) := by
  simp only [Sat, show ¬ (17 : Int) = 10 by decide, show ¬ (17 : Int) = 14 by decide, if_false, if_true]
  exact fin_iff
theorem sat_glo : Sat W (.n1 18 v f) i ↔ ∀ j, Sat W f (nxtN W.n W.back j i) := by
  simp only [Sat, show ¬ (18 : Int) = 10 by decide, show ¬ (18 : Int) = 14 by decide, show ¬ (18 : Int) = 17 by decide, if_false]
  exact glo_iff
theorem sat_unt : Sat W (.n2 15 v f g) i ↔ UntilP W.n W.back (Sat W f) (Sat W g) i := by
  simp only [Sat, show ¬ (15 : Int) = 8 by decide, show ¬ (15 : Int) = 9 by decide, if_false, if_true]
theorem sat_rel : Sat W (.n2 16 v f g) i ↔ RelP W.n W.back (Sat W f) (Sat W g) i := by
  simp only [Sat, show ¬ (16 : Int) = 8 by decide, show ¬ (16 : Int) = 9 by decide, show ¬ (16 : Int) = 15 by decide, if_false]
theorem sat_not : Sat W (.n1 10 v f) i ↔ ¬ Sat W f i := by simp only [Sat, if_true]
theorem sat_next : Sat W (.n1 14 v f) i ↔ Sat W f (nxt W.n W.back i) := by simp only [Sat, show ¬ (14 : Int) = 10 by decide, if_false, if_true]
theorem sat_and : Sat W (.n2 8 v f g) i ↔ Sat W f i ∧ Sat W g i := by simp only [Sat, if_true]
theorem sat_or : Sat W (.n2 9 v f g) i ↔ Sat W f i ∨ Sat W g i := by simp only [Sat, show ¬ (9 : Int) = 8 by decide, if_false, if_true]
theorem satB_congr {W W' : Wd} {t u : Tm} {i j : Nat} (h : Sat W t i ↔ Sat W' u j) : satB W t i = satB W' u j := satB_eq (h.trans satB_iff.symm)
theorem dual_glo : satB W (.n1 18 v f) i = satB W (.n1 10 v2 (.n1 17 v3 (.n1 10 v4 f))) i := satB_congr (by
  rw [sat_glo, sat_not, sat_fin]
  simp only [sat_not]
  exact ⟨fun h ⟨j, hj⟩ => hj (h j), fun h j => Classical.byContradiction fun hn => h ⟨j, hn⟩⟩)
theorem dual_rel : satB W (.n2 16 v f g) i = satB W (.n1 10 v2 (.n2 15 v3 (.n1 10 v4 f) (.n1 10 v5 g))) i := satB_congr (by
  rw [sat_rel, sat_not, sat_unt, rel_not]
  exact not_congr (until_congr (fun j => (sat_not W v4 f j).symm) (fun j => (sat_not W v5 g j).symm) i))
theorem or_not : satB W (.n2 9 v f (.n1 10 v2 f)) i = true := by
  rw [satB_or, satB_not]; simp
theorem spread_glo : satB W (.n1 18 v (.n2 8 v2 f g)) i = satB W (.n2 8 v3 (.n1 18 v4 f) (.n1 18 v5 g)) i := satB_congr (by
  simp only [sat_glo, sat_and]
  exact forall_and)
theorem spread_fin : satB W (.n1 17 v (.n2 9 v2 f g)) i = satB W (.n2 9 v3 (.n1 17 v4 f) (.n1 17 v5 g)) i := satB_congr (by
  simp only [sat_fin, sat_or]
  exact exists_or)
theorem spread_unt : satB W (.n2 15 v f (.n2 9 v2 g h)) i = satB W (.n2 9 v3 (.n2 15 v4 f g) (.n2 15 v5 f h)) i := satB_congr (by
  rw [sat_unt, sat_or, sat_unt, sat_unt, ← until_or]
  exact until_congr (fun _ => Iff.rfl) (fun j => sat_or W v2 g h j) i)
theorem spread_both : satB W (.n2 15 v (.n2 8 v2 f g) h) i = satB W (.n2 8 v3 (.n2 15 v4 f h) (.n2 15 v5 g h)) i := satB_congr (by
  rw [sat_unt, sat_and, sat_unt, sat_unt, ← until_and]
  exact until_congr (fun j => sat_and W v2 f g j) (fun _ => Iff.rfl) i)
theorem spread_next : satB W (.n1 14 v (.n2 8 v2 f g)) i = satB W (.n2 8 v3 (.n1 14 v4 f) (.n1 14 v5 g)) i := satB_congr (by
  simp only [sat_next, sat_and])
theorem nest_glo : satB W (.n1 18 v (.n1 18 v2 f)) i = satB W (.n1 18 v3 f) i := satB_congr (by
  simp only [sat_glo, ← nxtN_add]
  exact ⟨fun h j => by simpa using h j 0, fun h j k => h (j + k)⟩)
theorem nest_fin : satB W (.n1 17 v (.n1 17 v2 f)) i = satB W (.n1 17 v3 f) i := satB_congr (by
  simp only [sat_fin, ← nxtN_add]
  exact ⟨fun ⟨j, k, h⟩ => ⟨j + k, h⟩, fun ⟨j, h⟩ => ⟨j, 0, by simpa using h⟩⟩)
theorem nest_unt : satB W (.n2 15 v f (.n2 15 v2 f g)) i = satB W (.n2 15 v3 f g) i := satB_congr (by
  rw [sat_unt, sat_unt, ← until_twice (b := Sat W g)]
  exact until_congr (fun _ => Iff.rfl) (fun j => sat_unt W v2 f g j) i)
theorem nest_rel : satB W (.n2 16 v f (.n2 16 v2 f g)) i = satB W (.n2 16 v3 f g) i := satB_congr (by
  rw [sat_rel, sat_rel, ← rel_twice (b := Sat W g)]
  exact rel_congr (fun _ => Iff.rfl) (fun j => sat_rel W v2 f g j) i)
theorem nest_fgf : satB W (.n1 17 v (.n1 18 v2 (.n1 17 v3 f))) i = satB W (.n1 18 v4 (.n1 17 v5 f)) i := satB_congr (by
  simp only [sat_fin, sat_glo, ← nxtN_add]
  exact ⟨fun ⟨j, h⟩ k => by
    obtain ⟨m, hm⟩ := h k
    exact ⟨j + m, by rw [show k + (j + m) = j + k + m by omega]; exact hm⟩, fun h => ⟨0, fun k => by simpa using h k⟩⟩)
theorem nest_gfg : satB W (.n1 18 v (.n1 17 v2 (.n1 18 v3 f))) i = satB W (.n1 17 v4 (.n1 18 v5 f)) i := satB_congr (by
  simp only [sat_fin, sat_glo, ← nxtN_add]
  exact ⟨fun h => by simpa using h 0, fun ⟨j, h⟩ k => ⟨j, fun m => by rw [show k + j + m = j + (k + m) by omega]; exact h (k + m)⟩⟩)
theorem now_unt : satB W (.n2 15 v f g) i = (satB W g i || (satB W f i && satB W (.n2 15 v f g) (nxt W.n W.back i))) := satB_eq (by
  rw [sat_unt, until_iff]
  simp only [Bool.or_eq_true, Bool.and_eq_true, satB_iff, sat_unt])
theorem now_rel : satB W (.n2 16 v f g) i = (satB W g i && (satB W f i || satB W (.n2 16 v f g) (nxt W.n W.back i))) := satB_eq (by
  rw [sat_rel, rel_iff]
  simp only [Bool.or_eq_true, Bool.and_eq_true, satB_iff, sat_rel])
theorem now_fin : satB W (.n1 17 v f) i = (satB W f i || satB W (.n1 17 v f) (nxt W.n W.back i)) := satB_eq (by
  simp only [Bool.or_eq_true, satB_iff, sat_fin]
  exact ⟨fun ⟨j, h⟩ => by
    cases j with
    | zero => exact .inl h
    | succ j => exact .inr ⟨j, h⟩, fun h => by
    rcases h with h | ⟨j, h⟩
    · exact ⟨0, h⟩
    · exact ⟨j + 1, h⟩⟩)
theorem now_glo : satB W (.n1 18 v f) i = (satB W f i && satB W (.n1 18 v f) (nxt W.n W.back i)) := satB_eq (by
  simp only [Bool.and_eq_true, satB_iff, sat_glo]
  exact ⟨fun h => ⟨h 0, fun j => h (j + 1)⟩, fun ⟨h1, h2⟩ j => by
    cases j with
    | zero => exact h1
    | succ j => exact h2 j⟩)
end
theorem nxtN_min {n back : Nat} : ∀ j i, min i back ≤ nxtN n back j i
  | 0, i => by show min i back ≤ i; omega
  | j + 1, i => by
    have h := nxtN_min (n := n) (back := back) j (nxt n back i)
    have h2 : min i back ≤ min (nxt n back i) back := by unfold nxt; split <;> omega
    exact Nat.le_trans h2 h
theorem nxtN_up {n back : Nat} : ∀ j i, i + j < n → nxtN n back j i = i + j
  | 0, i, _ => rfl
  | j + 1, i, h => by
    show nxtN n back j (nxt n back i) = _
    have e : nxt n back i = i + 1 := by unfold nxt; rw [if_pos (by omega)]
    rw [e, nxtN_up j (i + 1) (by omega)]
    omega
theorem nxtN_back {n back : Nat} : ∀ j i, i + j = n → 0 < j → nxtN n back j i = back
  | 0, i, _, h => by omega
  | 1, i, h, _ => by show nxt n back i = back; unfold nxt; rw [if_neg (by omega)]
  | j + 2, i, h, _ => by
    show nxtN n back (j + 1) (nxt n back i) = _
    have e : nxt n back i = i + 1 := by unfold nxt; rw [if_pos (by omega)]
    rw [e, nxtN_back (j + 1) (i + 1) (by omega) (by omega)]
theorem nxtN_reach {n back i k : Nat} (hi : i < n) (h1 : min i back ≤ k) (h2 : k < n) (hb : back < n) : ∃ j, nxtN n back j i = k := by
  by_cases h : i ≤ k
  · exact ⟨k - i, by rw [nxtN_up _ _ (by omega)]; omega⟩
  · refine ⟨(n - i) + (k - back), ?_⟩
    rw [nxtN_add, nxtN_back (n - i) i (by omega) (by omega), nxtN_up _ _ (by omega)]
    omega
theorem fin_loop (W : Wd) (v : Int) (f : Tm) (i : Nat) (hi : i < W.n) (hb : W.back < W.n) : satB W (.n1 17 v f) i = true ↔ ∃ k, min i W.back ≤ k ∧ k < W.n ∧ satB W f k = true := by
  simp only [satB_iff, sat_fin]
  exact ⟨fun ⟨j, h⟩ => ⟨_, nxtN_min j i, nxtN_lt hb j i hi, h⟩, fun ⟨k, h1, h2, h⟩ => by
    obtain ⟨j, rfl⟩ := nxtN_reach hi h1 h2 hb
    exact ⟨j, h⟩⟩
theorem glo_loop (W : Wd) (v : Int) (f : Tm) (i : Nat) (hi : i < W.n) (hb : W.back < W.n) : satB W (.n1 18 v f) i = true ↔ ∀ k, min i W.back ≤ k → k < W.n → satB W f k = true := by
  simp only [satB_iff, sat_glo]
  exact ⟨fun h k h1 h2 => by
    obtain ⟨j, rfl⟩ := nxtN_reach hi h1 h2 hb
    exact h j, fun h j => h _ (nxtN_min j i) (nxtN_lt hb j i hi)⟩
end Go.Proofs.YthkiegaifkkegaaDoor
