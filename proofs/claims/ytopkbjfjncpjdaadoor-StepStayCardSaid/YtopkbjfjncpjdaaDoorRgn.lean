/- Rgn: what is needed of it. No condition. -/
import Derived.Orders
import Derived.Laws.World
namespace Go.Proofs.YtopkbjfjncpjdaaDoor
open Go
def fillL (on : Nat → Bool) (f : Nat → Value) : List Oper → Nat → Act → Act
  | [], _, a => a
  | o :: l, k, a => fillL on f l (k + 1) (if on k then a.put o.dst (f k) else a)
def allL (f : Nat → Value) : List Oper → Nat → Act → Act
  | [], _, a => a
  | o :: l, k, a => allL f l (k + 1) (a.put o.dst (f k))
theorem fillL_all {on : Nat → Bool} {f : Nat → Value} : ∀ (l : List Oper) (k : Nat) (a : Act), (∀ j, j < l.length → on (k + j) = true) → fillL on f l k a = allL f l k a
  | [], _, _, _ => rfl
  | o :: l, k, a, h => by
    have h0 : on k = true := by simpa using h 0 (by simp)
    rw [fillL, allL, if_pos h0]
    exact fillL_all l (k + 1) _ fun j hj => by have := h (j + 1) (by simpa using hj); rwa [show k + 1 + j = k + (j + 1) by omega]
theorem fillL_none {f : Nat → Value} : ∀ (l : List Oper) (k : Nat) (a : Act), fillL (fun _ => false) f l k a = a
  | [], _, _ => rfl
  | o :: l, k, a => by rw [fillL, if_neg (by simp)]; exact fillL_none l (k + 1) a
theorem fillL_put {on : Nat → Bool} {f : Nat → Value} {d : Option Tmp} {v : Value} : ∀ (l : List Oper) (k : Nat) (a : Act), (∀ o ∈ l, ∀ t, d = some t → o.dst ≠ some t) → fillL on f l k (a.put d v) = (fillL on f l k a).put d v
  | [], _, _, _ => rfl
  | o :: l, k, a, h => by
    rw [fillL, fillL]
    have h1 : (if on k then (a.put d v).put o.dst (f k) else a.put d v) = (if on k then a.put o.dst (f k) else a).put d v := by
      split
      · exact Act.put_comm a v (f k) (h o (List.mem_cons_self ..))
      · rfl
    rw [h1]
    exact fillL_put l (k + 1) _ fun o ho => h o (List.mem_cons_of_mem _ ho)
theorem fillL_congr {on on' : Nat → Bool} {f f' : Nat → Value} : ∀ (l : List Oper) (k : Nat) (a : Act), (∀ j, k ≤ j → on' j = on j ∧ f' j = f j) → fillL on' f' l k a = fillL on f l k a
  | [], _, _, _ => rfl
  | o :: l, k, a, h => by
    rw [fillL, fillL, (h k (Nat.le_refl _)).1, (h k (Nat.le_refl _)).2]
    exact fillL_congr l (k + 1) _ fun j hj => h j (by omega)
def apartL : List Oper → Bool
  | [] => true
  | o :: l => l.all (fun p => match o.dst with | some t => p.dst != some t | none => true) && apartL l
theorem fillL_set {on : Nat → Bool} {f : Nat → Value} {i : Nat} {v : Value} (hi : on i = false) : ∀ (l : List Oper) (k : Nat) (a : Act) (o : Oper), apartL l = true → k ≤ i → l[i - k]? = some o →
    fillL (fun j => j == i || on j) (fun j => if j = i then v else f j) l k a = (fillL on f l k a).put o.dst v
  | [], _, _, _, _, _, h => by simp at h
  | p :: l, k, a, o, hA, hk, h => by
    simp only [apartL, Bool.and_eq_true, List.all_eq_true] at hA
    rw [fillL, fillL]
    by_cases e : k = i
    · subst e
      simp at h
      subst h
      rw [if_pos (by simp), if_pos rfl, if_neg (by simp [hi])]
      rw [fillL_congr (on := on) (f := f) l (k + 1) _ fun j hj => ⟨by rw [show (j == k) = false by rw [beq_eq_false_iff_ne]; omega, Bool.false_or], by rw [if_neg (by omega)]⟩]
      refine fillL_put l (k + 1) a fun o ho t ht => ?_
      have := hA.1 o ho
      rw [ht] at this
      simpa using this
    · rw [show (k == i) = false by rw [beq_eq_false_iff_ne]; exact e, Bool.false_or, if_neg e]
      exact fillL_set hi l (k + 1) _ o hA.2 (by omega) (by rw [show i - k = (i - (k + 1)) + 1 by omega] at h; simpa using h)
theorem fillL_eval {on : Nat → Bool} {f : Nat → Value} {x : Operand} : ∀ (l : List Oper) (k : Nat) (a a' : Act), a.eval x = a'.eval x → a.tmps.size = a'.tmps.size → (∀ t, x = .tmp t → ∀ j o, l[j]? = some o → o.dst = some t → on (k + j) = true) → (fillL on f l k a).eval x = (allL f l k a').eval x
  | [], _, _, _, h, _, _ => h
  | o :: l, k, a, a', h, hs, hd => by
    rw [fillL, allL]
    refine fillL_eval l (k + 1) _ _ ?_ ?_ fun t ht j p hp hpd => by have := hd t ht (j + 1) p (by simpa using hp) hpd; rwa [show k + 1 + j = k + (j + 1) by omega]
    · by_cases ho : ∃ t, o.dst = some t ∧ x = .tmp t
      · obtain ⟨t, e1, e2⟩ := ho
        have h0 : on k = true := by simpa using hd t e2 0 o rfl e1
        rw [if_pos h0, e1, e2]
        simp only [Act.eval, Act.put]
        rw [Array.getD_eq_getD_getElem?, Array.getD_eq_getD_getElem?]
        by_cases ht : t < a.tmps.size
        · rw [Array.getElem?_setIfInBounds_self_of_lt ht, Array.getElem?_setIfInBounds_self_of_lt (hs ▸ ht)]
        · rw [Array.getElem?_eq_none (by simpa using ht), Array.getElem?_eq_none (by simpa [← hs] using ht)]
      · have hn : ∀ t, o.dst = some t → x ≠ .tmp t := fun t e1 e2 => ho ⟨t, e1, e2⟩
        rw [Act.eval_put (a := a') hn]
        split
        · rw [Act.eval_put hn, h]
        · exact h
    · have hz : ∀ (b : Act) (v : Value), (b.put o.dst v).tmps.size = b.tmps.size := fun b v => by
        cases hq : o.dst <;> simp [Act.put]
      rw [hz]
      split
      · rw [hz, hs]
      · exact hs
def depsO (o : Oper) : List Nat := (o.after.toList.filter fun e => Region.binds .any e).map (·.on)
def depsL (l : List Oper) (i : Nat) : List Nat := match l[i]? with | some o => depsO o | none => []
def ancL (l : List Oper) : Nat → Nat → Nat → Bool
  | 0, _, _ => false
  | m + 1, i, j => (depsL l i).any fun k => k == j || ancL l m k j
def lookL (l : List Oper) : Bool :=
  apartL l && Region.noSelect l.toArray &&
  (List.range l.length).all fun i => match l[i]? with
    | some o => o.guard.isNone && (depsO o).all (fun j => decide (j < i)) && (List.range l.length).all fun j => match l[j]? with
      | some p => match p.dst with
        | some t => (depsO o).contains j || !(o.looksAt l.toArray).contains t
        | none => true
      | none => true
    | none => true
theorem put_same {A : Act} {d : Option Tmp} {u v : Value} (hd : ∀ t, d = some t → t < A.tmps.size) (h : (A.put d u).tmps = (A.put d v).tmps) (a : Act) : a.put d u = a.put d v := by
  cases d with
  | none => rfl
  | some t =>
    have ht := hd t rfl
    have h1 : ((A.put (some t) u).tmps)[t]? = ((A.put (some t) v).tmps)[t]? := by rw [h]
    simp only [Act.put, Array.getElem?_setIfInBounds_self_of_lt ht, Option.some.injEq] at h1
    rw [h1]
theorem wp_over {P : Program} {o : Oper} {A a : Act} {w : World} {R : Value → World → Prop} {K : Act → World → Prop} {Q : Exit → Act → World → Prop} (hd : ∀ t, o.dst = some t → t < A.tmps.size) (he : execOp a.eval o = execOp A.eval o)
    (h : ∀ K : Act → World → Prop, (∀ v w', R v w' → K (A.put o.dst v) w') → o.wp P A w K (fun _ _ _ => False)) (hk : ∀ v w', R v w' → K (a.put o.dst v) w') : o.wp P a w K Q := by
  have h1 := h (fun b w' => ∃ v, b.tmps = (A.put o.dst v).tmps ∧ b.defers = A.defers ∧ R v w') fun v w' hr => ⟨v, rfl, by cases o.dst <;> rfl, hr⟩
  unfold Oper.wp at *
  rw [he]
  generalize (execOp A.eval o).run P w = r at *
  have key : ∀ (u : Value) (w' : World), (∃ v, (A.put o.dst u).tmps = (A.put o.dst v).tmps ∧ (A.put o.dst u).defers = A.defers ∧ R v w') → K (a.put o.dst u) w' := fun u w' ⟨v, e, _, hr⟩ => by
    rw [put_same hd e a]; exact hk v w' hr
  cases r with
  | ok n w' =>
    cases n <;> simp only [Oper.upon] at h1 ⊢
    case value u => exact key u w' h1
    case skip => exact key undef w' h1
    case defer d =>
      obtain ⟨v, _, e, _⟩ := h1
      have : (({ A with defers := d :: A.defers } : Act).put o.dst undef).defers = d :: A.defers := by cases o.dst <;> rfl
      rw [this] at e
      exact absurd (congrArg List.length e) (by simp)
    case enter f args =>
      refine Calls.mono h1 fun e w'' he => ?_
      cases e with
      | returned u => exact key u w'' he
      | panicked c => exact he.elim
      | outgrown => obtain ⟨_, _, hf⟩ := he; exact hf.elim
    case row row args => exact Rows.mono h1 fun u w'' he => key u w'' he
  | halt x w' =>
    cases x <;> simp only [Oper.upon] at h1
theorem count_less {p q : Nat → Bool} {i : Nat} : ∀ n, i < n → p i = true → (∀ j, q j = (p j && j != i)) → (List.range n).countP q + 1 = (List.range n).countP p
  | 0, h, _, _ => by omega
  | n + 1, h, hp, hq => by
    rw [List.range_succ, List.countP_append, List.countP_append]
    by_cases e : i = n
    · subst e
      have h1 : (List.range i).countP q = (List.range i).countP p := List.countP_congr fun j hj => by
        rw [hq j, show (j != i) = true by simp; have := List.mem_range.1 hj; omega, Bool.and_true]
      rw [h1]
      simp [hp, hq i]
    · have h1 := count_less n (by omega) hp hq
      have h2 : q n = p n := by rw [hq n, show (n != i) = true by simp; omega, Bool.and_true]
      simp only [List.countP_cons, List.countP_nil, h2]
      omega
def wrL : List Oper → Nat → Tmp → Option Nat
  | [], _, _ => none
  | o :: l, k, t => match wrL l (k + 1) t with
    | some j => some j
    | none => match o.dst with
      | some d => if d = t then some k else none
      | none => none
theorem allL_eval {f : Nat → Value} : ∀ (l : List Oper) (k : Nat) (a : Act) (t : Tmp), t < a.tmps.size → (allL f l k a).eval (.tmp t) = match wrL l k t with | some j => f j | none => a.eval (.tmp t)
  | [], _, _, _, _ => rfl
  | o :: l, k, a, t, h => by
    have hz : (a.put o.dst (f k)).tmps.size = a.tmps.size := by cases hq : o.dst <;> simp [Act.put]
    rw [allL, allL_eval l (k + 1) _ t (by rw [hz]; exact h), wrL]
    cases hw : wrL l (k + 1) t with
    | some j => rfl
    | none =>
      simp only []
      cases hd : o.dst with
      | none => rfl
      | some d =>
        simp only []
        by_cases e : d = t
        · subst e
          rw [if_pos rfl]
          show ((a.tmps.setIfInBounds d (f k)).getD d undef) = f k
          rw [Array.getD_eq_getD_getElem?, Array.getElem?_setIfInBounds_self_of_lt h]; rfl
        · rw [if_neg e]
          exact Act.eval_put fun d' h1 h2 => e (by injection h1 with h1; injection h2 with h2; rw [h1, h2])
theorem allL_size : ∀ (l : List Oper) (k : Nat) (f : Nat → Value) (a : Act), (allL f l k a).tmps.size = a.tmps.size
  | [], _, _, _ => rfl
  | o :: l, k, f, a => by
    rw [allL, allL_size l]
    cases o.dst <;> simp [Act.put]
section
variable {P : Program} {Q : Exit → Act → World → Prop} {l : List Oper} {a0 : Act} {X : Type} {pr : X → World} {S : X → Prop} {R : Nat → X → X → Prop} {J : Nat → Value → List Value → X → Prop} {cons : Nat → Option Nat} {cS : Option Nat}
def freeL (l : List Oper) (c : Option Nat) (i : Nat) : Bool := match c with | none => true | some c => c == i || ancL l l.length c i
def StepL (P : Program) (l : List Oper) (a0 : Act) {X : Type} (pr : X → World) (S : X → Prop) (R : Nat → X → X → Prop) (J : Nat → Value → List Value → X → Prop) (cons : Nat → Option Nat) (cS : Option Nat) (i : Nat) (o : Oper) : Prop :=
  ∀ (f : Nat → Value) (x : X), S x → (∀ j, ancL l l.length i j = true → freeL l (cons j) i = true → J j (f j) ((depsL l j).map f) x) →
    ∀ K : Act → World → Prop, (∀ v x', (cS ≠ some i → S x') → R i x x' → J i v ((depsL l i).map f) x' → K ((allL f l 0 a0).put o.dst v) (pr x')) → o.wp P (allL f l 0 a0) (pr x) K (fun _ _ _ => False)
def StepsL (P : Program) (l : List Oper) (a0 : Act) {X : Type} (pr : X → World) (S : X → Prop) (R : Nat → X → X → Prop) (J : Nat → Value → List Value → X → Prop) (cons : Nat → Option Nat) (cS : Option Nat) : List Oper → Nat → Prop
  | [], _ => True
  | o :: r, k => StepL P l a0 pr S R J cons cS k o ∧ StepsL P l a0 pr S R J cons cS r (k + 1)
theorem StepsL.more {o : Oper} {r : List Oper} {k : Nat} (h : ∀ (f : Nat → Value) (x : X) (A : Act), (∀ t, Nat.blt t a0.tmps.size = true → A.tmps[t]? = some (match wrL l 0 t with | some j => f j | none => a0.eval (.tmp t))) → S x → (∀ j, ancL l l.length k j = true → freeL l (cons j) k = true → J j (f j) ((depsL l j).map f) x) →
    ∀ K : Act → World → Prop, (∀ v x', (cS ≠ some k → S x') → R k x x' → J k v ((depsL l k).map f) x' → K (A.put o.dst v) (pr x')) → o.wp P A (pr x) K (fun _ _ _ => False)) (ht : StepsL P l a0 pr S R J cons cS r (k + 1)) : StepsL P l a0 pr S R J cons cS (o :: r) k :=
  ⟨fun f x hS hJ K hK => h f x _ (fun t ht => by
    have h1 : t < a0.tmps.size := Nat.le_of_ble_eq_true ht
    have h2 := allL_eval (f := f) l 0 a0 t h1
    rw [← h2]
    have h3 : t < (allL f l 0 a0).tmps.size := by rw [allL_size]; exact h1
    rw [Array.getElem?_eq_getElem h3]
    show _ = some ((allL f l 0 a0).tmps.getD t undef)
    rw [Array.getD_eq_getD_getElem?, Array.getElem?_eq_getElem h3]; rfl) hS hJ K hK, ht⟩
theorem ev_of {A : Act} {t : Nat} {v : Value} (h : A.tmps[t]? = some v) : A.eval (.tmp t) = v := by
  show A.tmps.getD t undef = v
  rw [Array.getD_eq_getD_getElem?, h]; rfl
theorem StepsL.done {k : Nat} : StepsL P l a0 pr S R J cons cS [] k := trivial
theorem StepsL.at' : ∀ (r : List Oper) (k : Nat), StepsL P l a0 pr S R J cons cS r k → ∀ i o, r[i]? = some o → StepL P l a0 pr S R J cons cS (k + i) o
  | [], _, _, _, _, h => by simp at h
  | p :: r, k, ⟨h1, h2⟩, i, o, h => by
    cases i with
    | zero => simp at h; subst h; exact h1
    | succ i => have := StepsL.at' r (k + 1) h2 i o (by simpa using h); rwa [show k + 1 + i = k + (i + 1) by omega] at this
theorem anc_on {on : Nat → Bool} (hc : ∀ i, on i = true → ∀ j ∈ depsL l i, on j = true) : ∀ (m i j : Nat), (∀ k ∈ depsL l i, on k = true) → ancL l m i j = true → on j = true
  | 0, _, _, _, h => by simp [ancL] at h
  | m + 1, i, j, hd, h => by
    simp only [ancL, List.any_eq_true, Bool.or_eq_true, beq_iff_eq] at h
    obtain ⟨k, hk, e | h⟩ := h
    · subst e; exact hd k hk
    · exact anc_on hc m k j (hc k (hd k hk)) h
theorem wpAny_ops (hL : lookL l = true) (hz : ∀ o ∈ l, ∀ t, o.dst = some t → t < a0.tmps.size) (hR : ∀ i j v vs x x', i < l.length → j < l.length → j ≠ i → ancL l l.length j i = false → cons j ≠ some i → R i x x' → J j v vs x → J j v vs x')
    (hcS : ∀ i, i < l.length → freeL l cS i = true) (hst : StepsL P l a0 pr S R J cons cS l 0) (hQ : ∀ f x, (cS = none → S x) → (∀ i, i < l.length → cons i = none → J i (f i) ((depsL l i).map f) x) → Q .normal (allL f l 0 a0) (pr x)) :
    ∀ (fuel : Nat) (on : Nat → Bool) (listed : Array Bool) (f : Nat → Value) (x : X), listed.size = l.length → (∀ j, j < l.length → listed[j]? = some (on j)) → (List.range l.length).countP (fun j => !on j) ≤ fuel →
      (∀ i, on i = true → i < l.length) → (∀ i, on i = true → ∀ j ∈ depsL l i, on j = true) → ((∀ c, cS = some c → on c = false) → S x) → (∀ i, on i = true → (∀ c, cons i = some c → on c = false) → J i (f i) ((depsL l i).map f) x) →
      wpAny P .any l.toArray Q fuel listed (fillL on f l 0 a0) (pr x) := by
  simp only [lookL, Bool.and_eq_true, List.all_eq_true, List.mem_range] at hL
  obtain ⟨⟨hA, hS⟩, hI⟩ := hL
  have hdeps : ∀ (i : Nat) (o : Oper), l[i]? = some o → o.guard = none ∧ (∀ j ∈ depsO o, j < i) ∧ ∀ (j : Nat) (p : Oper) (t : Tmp), l[j]? = some p → p.dst = some t → t ∈ o.looksAt l.toArray → j ∈ depsO o := fun i o ho => by
    have hi := (List.getElem?_eq_some_iff.1 ho).1
    have h1 := hI i hi
    rw [ho] at h1
    simp only [Bool.and_eq_true, List.all_eq_true, List.mem_range, Option.isNone_iff_eq_none, decide_eq_true_iff] at h1
    refine ⟨h1.1.1, h1.1.2, fun j p t hp ht hm => ?_⟩
    have h2 := h1.2 j (List.getElem?_eq_some_iff.1 hp).1
    rw [hp] at h2
    simp only [ht, Bool.or_eq_true, List.contains_iff_mem, Bool.not_eq_true'] at h2
    rcases h2 with h2 | h2
    · exact h2
    · exact absurd (List.contains_iff_mem.2 hm) (by rw [h2]; simp)
  have hdl : ∀ (i : Nat) (o : Oper), l[i]? = some o → depsL l i = depsO o := fun i o ho => by unfold depsL; rw [ho]
  have fin : ∀ (on : Nat → Bool) (listed : Array Bool), listed.size = l.length → (∀ j, j < l.length → listed[j]? = some (on j)) → Region.ready .any l.toArray listed = [] → ∀ j, j < l.length → on j = true := by
    intro on listed hsz hat hr j
    induction j using Nat.strongRecOn with
    | _ j ih =>
      intro hj
      by_cases hon : on j = true
      · exact hon
      · exfalso
        have hm : j ∈ Region.ready .any l.toArray listed := mem_ready.2 ⟨by rw [Array.getD_eq_getD_getElem?, hat j hj]; simpa using hon, l[j], by simp [hj], fun e he hb => by
          have h1 : e.on ∈ depsO l[j] := List.mem_map.2 ⟨e, List.mem_filter.2 ⟨Array.mem_toList_iff.2 he, hb⟩, rfl⟩
          have h2 := (hdeps j l[j] (by simp [hj])).2.1 _ h1
          rw [Array.getD_eq_getD_getElem?, hat e.on (by omega), ih e.on h2 (by omega)]; rfl⟩
        rw [hr] at hm
        cases hm
  have ends : ∀ (on : Nat → Bool) (f : Nat → Value) (x : X), (∀ j, j < l.length → on j = true) → ((∀ c, cS = some c → on c = false) → S x) → (∀ i, on i = true → (∀ c, cons i = some c → on c = false) → J i (f i) ((depsL l i).map f) x) → Q .normal (fillL on f l 0 a0) (pr x) := fun on f x hall hw hJ => by
    rw [fillL_all l 0 a0 fun j hj => by simpa using hall j hj]
    exact hQ f x (fun h0 => hw fun c h => by rw [h0] at h; cases h) fun i hi hc => hJ i (hall i hi) fun c h => by rw [hc] at h; cases h
  intro fuel
  induction fuel with
  | zero =>
    intro on listed f x hsz hat hcnt _ hcl hw hJ
    have hall : ∀ j, j < l.length → on j = true := fun j hj => by
      have h0 : (List.range l.length).countP (fun j => !on j) = 0 := by omega
      have := List.countP_eq_zero.1 h0 j (List.mem_range.2 hj)
      simpa using this
    refine ⟨?_, ends on f x hall hw hJ⟩
    refine List.eq_nil_iff_forall_not_mem.2 fun j hj => ?_
    obtain ⟨h1, o, ho, _⟩ := mem_ready.1 hj
    have hj2 : j < l.length := by simpa using (Array.getElem?_eq_some_iff.1 ho).1
    rw [Array.getD_eq_getD_getElem?, hat j hj2, hall j hj2] at h1
    simp at h1
  | succ fuel ih =>
    intro on listed f x hsz hat hcnt hlt hcl hw hJ
    refine ⟨fun hr => ends on f x (fin on listed hsz hat hr) hw hJ, fun i hi => ?_⟩
    obtain ⟨h1, o, ho, hafter⟩ := mem_ready.1 hi
    have ho' : l[i]? = some o := by simpa using ho
    have hil : i < l.length := (List.getElem?_eq_some_iff.1 ho').1
    have hoff : on i = false := by rw [Array.getD_eq_getD_getElem?, hat i hil] at h1; simpa using h1
    obtain ⟨hg, hdlt, hdm⟩ := hdeps i o ho'
    have hdon : ∀ j ∈ depsL l i, on j = true := fun j hj => by
      rw [hdl i o ho'] at hj
      have hj' := hj
      obtain ⟨e, he, rfl⟩ := List.mem_map.1 hj
      have he2 := List.mem_filter.1 he
      have h2 := hafter e (Array.mem_toList_iff.1 he2.1) he2.2
      have h3 := hdlt e.on hj'
      rw [Array.getD_eq_getD_getElem?, hat e.on (by omega)] at h2
      simpa using h2
    unfold wpOp
    rw [ho]
    simp only []
    rw [if_pos (by simp [Region.wanted, hg])]
    refine .inl ?_
    have hstep := StepsL.at' l 0 hst i o ho'
    rw [Nat.zero_add] at hstep
    have hfree : ∀ q, freeL l q i = true → ∀ c, q = some c → on c = false := fun q hq c hc => by
      subst hc
      simp only [freeL, Bool.or_eq_true, beq_iff_eq] at hq
      rcases hq with rfl | hq
      · exact hoff
      · cases hc : on c with
        | false => rfl
        | true => have := anc_on hcl _ c i (hcl c hc) hq; rw [hoff] at this; cases this
    refine wp_over (A := allL f l 0 a0) (R := fun v w' => ∃ x', w' = pr x' ∧ (cS ≠ some i → S x') ∧ R i x x' ∧ J i v ((depsL l i).map f) x') (fun t ht => by rw [allL_size]; exact hz o (List.mem_of_getElem? ho') t ht) ?_ (fun K hK => hstep f x (hw (hfree cS (hcS i hil))) (fun j hj hc => hJ j (anc_on hcl _ i j hdon hj) (hfree _ hc)) K fun v x' a b c => hK v (pr x') ⟨x', rfl, a, b, c⟩) ?_
    · refine execOp_congr o (fun cs b => Region.noSelect_spec hS i o cs b ho) fun y hy => ?_
      refine fillL_eval l 0 a0 a0 rfl rfl fun t ht j p hp hpt => ?_
      rw [Nat.zero_add]
      refine hdon j ?_
      rw [hdl i o ho']
      refine hdm j p t hp hpt (List.mem_append_left _ (List.mem_filterMap.2 ⟨.tmp t, by rw [← ht]; simpa using hy, rfl⟩))
    · rintro v w' ⟨x', rfl, hw', hr', hj'⟩
      have hmf : ∀ k, on k = true → ((depsL l k).map fun j => if j = i then v else f j) = (depsL l k).map f := fun k hk => List.map_congr_left fun j hj => by
        have := hcl k hk j hj
        rw [if_neg (fun e => by rw [e, hoff] at this; cases this)]
      have hmi : ((depsL l i).map fun j => if j = i then v else f j) = (depsL l i).map f := List.map_congr_left fun j hj => by
        have := hdon j hj
        rw [if_neg (fun e => by rw [e, hoff] at this; cases this)]
      have h5 := ih (fun j => j == i || on j) (listed.setIfInBounds i true) (fun j => if j = i then v else f j) x' (by simp [hsz]) (fun j hj => by
        rw [Array.getElem?_setIfInBounds]
        by_cases e : i = j
        · subst e; simp [hsz, hil]
        · rw [if_neg e, hat j hj, show (j == i) = false by rw [beq_eq_false_iff_ne]; exact Ne.symm e, Bool.false_or]) (by
        have := count_less (p := fun j => !on j) (q := fun j => !(j == i || on j)) (i := i) l.length hil (by simp [hoff]) fun j => by
          by_cases e : j = i
          · subst e; simp
          · rw [show (j == i) = false by rw [beq_eq_false_iff_ne]; exact e, show (j != i) = true by simpa using e]; simp
        omega) (fun j hj => by
          simp only [Bool.or_eq_true, beq_iff_eq] at hj
          rcases hj with rfl | hj
          · exact hil
          · exact hlt j hj) (fun k hk j hj => by
          simp only [Bool.or_eq_true, beq_iff_eq] at hk ⊢
          rcases hk with rfl | hk
          · exact .inr (hdon j hj)
          · exact .inr (hcl k hk j hj)) (fun hc => hw' fun h => by have := hc i h; simp at this) (fun k hk hc => by
          simp only [Bool.or_eq_true, beq_iff_eq] at hk
          by_cases e : k = i
          · subst e
            rw [hmi]
            simpa using hj'
          · have hk : on k = true := hk.resolve_left e
            rw [hmf k hk]
            have hci : cons k ≠ some i := fun h => by have := hc i h; simp at this
            have hcf : ∀ c, cons k = some c → on c = false := fun c h => by have := hc c h; simp only [Bool.or_eq_false_iff] at this; exact this.2
            have hna : ancL l l.length k i = false := by
              cases hq : ancL l l.length k i with
              | false => rfl
              | true => have := anc_on hcl _ k i (hcl k hk) hq; rw [hoff] at this; cases this
            simpa only [if_neg e] using hR _ _ _ _ _ _ hil (hlt k hk) e hna hci hr' (hJ k hk hcf))
      rwa [fillL_set hoff l 0 a0 o hA (Nat.zero_le _) (by simpa using ho')] at h5
theorem wp_region_ops {id : Nat} {w : World} (hm : P.follows .mixedOrders = true) {X : Type} (pr : X → World) (S : X → Prop) (R : Nat → X → X → Prop) (J : Nat → Value → List Value → X → Prop) (cons : Nat → Option Nat) (cS : Option Nat) (x0 : X) (hx0 : pr x0 = w.drew) (hL : lookL l = true) (hz : (l.all fun o => match o.dst with | some t => decide (t < a0.tmps.size) | none => true) = true)
    (hw : S x0) (hR : ∀ i j v vs x x', i < l.length → j < l.length → j ≠ i → ancL l l.length j i = false → cons j ≠ some i → R i x x' → J j v vs x → J j v vs x') (hcS : ((List.range l.length).all fun i => freeL l cS i) = true) (hst : StepsL P l a0 pr S R J cons cS l 0)
    (hQ : ∀ f x, (cS = none → S x) → (∀ i, i < l.length → cons i = none → J i (f i) ((depsL l i).map f) x) → Q .normal (allL f l 0 a0) (pr x)) : (Code.region id l.toArray true).wp P Q a0 w := by
  refine wp_region_any hm ?_
  have h := wpAny_ops (Q := Q) (P := P) (a0 := a0) (pr := pr) hL (fun o ho t ht => by have := List.all_eq_true.1 hz o ho; rw [ht] at this; simpa using this) hR (fun i hi => List.all_eq_true.1 hcS i (List.mem_range.2 hi)) hst hQ l.toArray.size (fun _ => false) (Array.replicate l.toArray.size false) (fun _ => undef) x0
    (by simp) (fun j hj => by simp [hj]) (by simp) (fun i h => by cases h) (fun i h => by cases h) (fun _ => hw) (fun i h => by cases h)
  rw [fillL_none, hx0] at h
  exact h
end
theorem last_anc {l : List Oper} {n i : Nat} {p : Prop} (h : ((List.range l.length).all fun i => i == n || ancL l l.length n i) = true) (hi : i < l.length) (hn : n ≠ i) (ha : ancL l l.length n i = false) : p := by
  have := List.all_eq_true.1 h i (List.mem_range.2 hi)
  rw [ha, Bool.or_false, beq_iff_eq] at this
  exact absurd this.symm hn
theorem anc_not {l : List Oper} {i j : Nat} {p : Prop} (h : ancL l l.length j i = true) (ha : ancL l l.length j i = false) : p := by rw [h] at ha; cases ha
theorem wp_val {P : Program} {o : Oper} {a : Act} {w : World} {K : Act → World → Prop} {Q : Exit → Act → World → Prop} {v : Value} {w' : World} (h : (execOp a.eval o).run P w = .ok (.value v) w') (hk : K (a.put o.dst v) w') : o.wp P a w K Q := by
  unfold Oper.wp; rw [h]; exact hk
theorem wp_skip {P : Program} {o : Oper} {a : Act} {w : World} {K : Act → World → Prop} {Q : Exit → Act → World → Prop} {w' : World} (h : (execOp a.eval o).run P w = .ok .skip w') (hk : K (a.put o.dst undef) w') : o.wp P a w K Q := by
  unfold Oper.wp; rw [h]; exact hk
end Go.Proofs.YtopkbjfjncpjdaaDoor
