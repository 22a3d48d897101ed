/- SettleP: what is needed of it. No condition. -/
import Derived.Test.YthkiegaifkkegaaDoorWordP
namespace Go.Proofs.YthkiegaifkkegaaDoor
def updB (r : Nat → Bool) (i : Nat) (v : Bool) : Nat → Bool := fun x => if x = i then v else r x
structure Sets (n back : Nat) (bg : Bool) (law : Nat → Bool → Bool) (fix : Nat → Prop) (r : Nat → Bool) : Prop where
  sup : ∀ i, i < n → r i = !bg → law i (r (nxt n back i)) = !bg
  snd : ∀ i, i < n → r i = !bg → fix i
theorem Sets.begin (n back : Nat) (bg : Bool) (law : Nat → Bool → Bool) (fix : Nat → Prop) : Sets n back bg law fix fun _ => bg :=
  ⟨fun _ _ h => absurd (show bg = !bg from h) (by cases bg <;> simp), fun _ _ h => absurd (show bg = !bg from h) (by cases bg <;> simp)⟩
theorem Sets.old {n back : Nat} {bg : Bool} {law : Nat → Bool → Bool} {fix : Nat → Prop} {r : Nat → Bool} (h : Sets n back bg law fix r) {i : Nat} (hi : i < n) (hv : law i (r (nxt n back i)) ≠ r i) : r i = bg ∧ law i (r (nxt n back i)) = !bg := by
  have h1 := h.sup i hi
  cases hr : r i <;> cases bg <;> cases hl : law i (r (nxt n back i)) <;> simp_all
theorem Sets.turn {n back : Nat} {bg : Bool} {law : Nat → Bool → Bool} {fix : Nat → Prop} {r : Nat → Bool} (h : Sets n back bg law fix r) (hback : back < n) (hm : ∀ i, law i bg = !bg → law i (!bg) = !bg)
    (hs : ∀ i x, i < n → law i x = !bg → (x = !bg → fix (nxt n back i)) → fix i) {i : Nat} (hi : i < n) (hv : law i (r (nxt n back i)) = !bg) : Sets n back bg law fix (updB r i (!bg)) := by
  have hup : ∀ j, law j (r (nxt n back j)) = !bg → law j (updB r i (!bg) (nxt n back j)) = !bg := fun j hj => by
    unfold updB
    split
    · cases hx : r (nxt n back j) <;> rw [hx] at hj <;> cases bg <;> first | exact hj | exact hm j hj
    · exact hj
  refine ⟨fun j hj hr => ?_, fun j hj hr => ?_⟩
  · by_cases e : j = i
    · subst e; exact hup j hv
    · rw [updB, if_neg e] at hr
      exact hup j (h.sup j hj hr)
  · by_cases e : j = i
    · subst e
      exact hs j _ hj hv fun hx => h.snd _ (nxt_lt hback) hx
    · rw [updB, if_neg e] at hr
      exact h.snd j hj hr
def cntB (n : Nat) (bg : Bool) (r : Nat → Bool) : Nat := ((List.range n).filter fun i => r i == bg).length
theorem cntB_turn {bg : Bool} {r : Nat → Bool} {i : Nat} (hr : r i = bg) : ∀ n, i < n → cntB n bg (updB r i (!bg)) + 1 = cntB n bg r
  | 0, h => by omega
  | n + 1, h => by
    unfold cntB
    rw [List.range_succ, List.filter_append, List.filter_append, List.length_append, List.length_append]
    by_cases e : i = n
    · subst e
      have h1 : (List.range i).filter (fun j => updB r i (!bg) j == bg) = (List.range i).filter fun j => r j == bg := List.filter_congr fun j hj => by
        have := List.mem_range.1 hj
        rw [updB, if_neg (by omega)]
      rw [h1]
      have h2 : (updB r i (!bg) i == bg) = false := by rw [updB, if_pos rfl]; cases bg <;> rfl
      have h3 : (r i == bg) = true := by rw [hr]; cases bg <;> rfl
      simp [h2, h3]
    · have ih := cntB_turn (bg := bg) hr n (by omega)
      unfold cntB at ih
      have h2 : (updB r i (!bg) n == bg) = (r n == bg) := by rw [updB, if_neg (fun x => e x.symm)]
      simp only [List.filter_cons, List.filter_nil, h2]
      omega
def lawU (a b : Nat → Bool) (i : Nat) (x : Bool) : Bool := b i || (a i && x)
def lawR (a b : Nat → Bool) (i : Nat) (x : Bool) : Bool := b i && (a i || x)
theorem lawU_mono (a b : Nat → Bool) (i : Nat) (h : lawU a b i false = !false) : lawU a b i (!false) = !false := by
  revert h; unfold lawU; cases a i <;> cases b i <;> decide
theorem lawR_mono (a b : Nat → Bool) (i : Nat) (h : lawR a b i true = !true) : lawR a b i (!true) = !true := by
  revert h; unfold lawR; cases a i <;> cases b i <;> decide
theorem lawU_step {n back : Nat} (a b : Nat → Bool) (i : Nat) (x : Bool) (_hi : i < n) (h : lawU a b i x = !false) (hx : x = !false → UntilP n back (fun j => a j = true) (fun j => b j = true) (nxt n back i)) : UntilP n back (fun j => a j = true) (fun j => b j = true) i := by
  rw [until_iff]
  unfold lawU at h
  simp only [Bool.not_false, Bool.or_eq_true, Bool.and_eq_true] at h hx
  rcases h with h | ⟨h1, h2⟩
  · exact .inl h
  · exact .inr ⟨h1, hx h2⟩
theorem lawR_step {n back : Nat} (a b : Nat → Bool) (i : Nat) (x : Bool) (_hi : i < n) (h : lawR a b i x = !true) (hx : x = !true → ¬ RelP n back (fun j => a j = true) (fun j => b j = true) (nxt n back i)) : ¬ RelP n back (fun j => a j = true) (fun j => b j = true) i := by
  rw [rel_iff]
  unfold lawR at h
  simp only [Bool.not_true, Bool.and_eq_false_iff, Bool.or_eq_false_iff] at h hx
  rintro ⟨h1, h2⟩
  rcases h with h | ⟨h3, h4⟩
  · rw [h] at h1; cases h1
  · rcases h2 with h2 | h2
    · rw [h3] at h2; cases h2
    · exact hx h4 h2
theorem settled_until {n back : Nat} {a b r : Nat → Bool} (hback : back < n) (h : Sets n back false (lawU a b) (UntilP n back (fun j => a j = true) (fun j => b j = true)) r) (hs : ∀ i, i < n → lawU a b i (r (nxt n back i)) = r i) :
    ∀ i, i < n → (r i = true ↔ UntilP n back (fun j => a j = true) (fun j => b j = true) i) :=
  until_row (r := fun i => r i = true) hback (fun i hi hr => h.snd i hi hr) fun i hi hx => by
    rw [← hs i hi]
    unfold lawU
    rcases hx with hx | ⟨h1, h2⟩
    · rw [hx]; rfl
    · rw [h1, h2]; simp
theorem settled_rel {n back : Nat} {a b r : Nat → Bool} (hback : back < n) (h : Sets n back true (lawR a b) (fun i => ¬ RelP n back (fun j => a j = true) (fun j => b j = true) i) r) (hs : ∀ i, i < n → lawR a b i (r (nxt n back i)) = r i) :
    ∀ i, i < n → (r i = true ↔ RelP n back (fun j => a j = true) (fun j => b j = true) i) :=
  rel_row (r := fun i => r i = true) hback (fun i hi hr => by
    cases hx : r i
    · exact absurd hr (h.snd i hi hx)
    · rfl) fun i hi hr => by
    rw [← hs i hi] at hr
    unfold lawR at hr
    simpa using hr
end Go.Proofs.YthkiegaifkkegaaDoor
