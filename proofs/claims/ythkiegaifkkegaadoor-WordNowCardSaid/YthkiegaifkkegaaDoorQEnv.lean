/- A region of reads that draws its order, walked in the order of its text, with the frame behind a name: what is known of its slots stands in a list. No condition. -/
import Derived.Test.YthkiegaifkkegaaDoorLexS
import Derived.Test.YthkiegaifkkegaaDoorShut
import Derived.Test.YthkiegaifkkegaaDoorRgn
namespace Go.Proofs.YthkiegaifkkegaaDoor
open Go Go.RowKit

def lookE : List (Nat × Value) → Nat → Option Value
  | [], _ => none
  | (k, v) :: E, t => match Nat.beq k t with | true => some v | false => lookE E t
structure Kn (A : Act) (N : Nat) (E : List (Nat × Value)) : Prop where
  size : A.tmps.size = N
  at' : ∀ t v, lookE E t = some v → A.tmps[t]? = some v
theorem Kn.put {A : Act} {N : Nat} {E : List (Nat × Value)} (h : Kn A N E) {d : Nat} (hd : Nat.blt d N = true) (v : Value) : Kn (A.put (some d) v) N ((d, v) :: E) := by
  have hd' : d < A.tmps.size := by rw [h.size]; exact Nat.le_of_ble_eq_true hd
  refine ⟨by simp [Act.put, h.size], fun t u ht => ?_⟩
  show (A.tmps.setIfInBounds d v)[t]? = some u
  by_cases e : d = t
  · subst e
    simp only [lookE, Nat.beq_refl] at ht
    rw [Array.getElem?_setIfInBounds_self_of_lt hd', ht]
  · have hb : Nat.beq d t = false := by
      cases hq : Nat.beq d t with
      | false => rfl
      | true => exact absurd (Nat.eq_of_beq_eq_true hq) e
    simp only [lookE, hb] at ht
    rw [Array.getElem?_setIfInBounds_ne e]
    exact h.at' t u ht

theorem Kn.start {A : Act} {N : Nat} (h : A.tmps.size = N) : Kn A N [] := ⟨h, fun t v h => by cases h⟩
theorem Kn.add {A : Act} {N : Nat} {E : List (Nat × Value)} (h : Kn A N E) {t : Nat} {v : Value} (ht : A.tmps[t]? = some v) : Kn A N ((t, v) :: E) := ⟨h.size, fun k u hu => by
  by_cases e : t = k
  · subst e
    simp only [lookE, Nat.beq_refl] at hu
    rw [ht, hu]
  · have hb : Nat.beq t k = false := by
      cases hq : Nat.beq t k with
      | false => rfl
      | true => exact absurd (Nat.eq_of_beq_eq_true hq) e
    simp only [lookE, hb] at hu
    exact h.at' k u hu⟩

section
variable {P : Program} {ops : Array Oper} {C : World → Prop} {Q : Act → Prop} {o : Oper} {rest : List Oper} {A : Act} {N : Nat} {E : List (Nat × Value)} {d : Nat}

theorem w_none (h : o.guard = none) : Region.wanted o (yielded ops A.tmps) = true := by simp [Region.wanted, h]
theorem w_some {g t : Nat} {want b : Bool} (hg : o.guard = some (g, want)) (ht : (ops[g]?).bind (·.dst) = some t) (hk : Kn A N E) (hb : lookE E t = some (.bool b)) : Region.wanted o (yielded ops A.tmps) = (b == want) := by
  have h1 : yielded ops A.tmps g = some b := by
    unfold yielded
    rw [ht]
    simp [hk.at' t _ hb]
  simp [Region.wanted, hg, h1]

theorem w_undef {g t : Nat} {want : Bool} (hg : o.guard = some (g, want)) (ht : (ops[g]?).bind (·.dst) = some t) (hk : Kn A N E) (hb : lookE E t = some undef) : Region.wanted o (yielded ops A.tmps) = false := by
  have h1 : yielded ops A.tmps g = none := by
    unfold yielded
    rw [ht]
    simp [hk.at' t _ hb, undef]
  simp [Region.wanted, hg, h1]
theorem q_more (hk : Kn A N E) (ho : o.dst = some d) (hd : Nat.blt d N = true) (hw : Region.wanted o (yielded ops A.tmps) = true) {v : Value} (hv : ∀ w, C w → o.quietAt P A C w v) (h : ∀ A', Kn A' N ((d, v) :: E) → Shut (wpQuiet P ops C Q rest A')) : Shut (wpQuiet P ops C Q (o :: rest) A) := by
  refine hq_step fun K hK => ?_
  rw [if_pos hw]
  exact ⟨v, hv, hK _ (by rw [ho]; exact h _ (hk.put hd v))⟩
theorem q_skip (hk : Kn A N E) (ho : o.dst = some d) (hd : Nat.blt d N = true) (hw : Region.wanted o (yielded ops A.tmps) = false) (h : ∀ A', Kn A' N ((d, undef) :: E) → Shut (wpQuiet P ops C Q rest A')) : Shut (wpQuiet P ops C Q (o :: rest) A) := by
  refine hq_step fun K hK => ?_
  rw [if_neg (by rw [hw]; simp)]
  exact hK _ (by rw [ho]; exact h _ (hk.put hd undef))

/-- What the operations have put, one behind the other. -/
inductive Chain : List Oper → Act → Act → Prop
  | nil (a : Act) : Chain [] a a
  | cons {o : Oper} {l : List Oper} {a b : Act} (v : Value) (h : Chain l (a.put o.dst v) b) : Chain (o :: l) a b
theorem wpQuiet_mono {Q Q' : Act → Prop} (h : ∀ a, Q a → Q' a) : ∀ (l : List Oper) (a : Act), wpQuiet P ops C Q l a → wpQuiet P ops C Q' l a
  | [], _, hh => h _ hh
  | o :: l, a, hh => by
    unfold wpQuiet at hh ⊢
    split
    · rename_i hw
      rw [if_pos hw] at hh
      exact Oper.quiet_mono (fun b hb => wpQuiet_mono h l b hb) hh
    · rename_i hw
      rw [if_neg hw] at hh
      exact wpQuiet_mono h l _ hh
theorem quiet_chain {Q : Act → Prop} : ∀ (l : List Oper) (a : Act), wpQuiet P ops C (fun b => Chain l a b → Q b) l a → wpQuiet P ops C Q l a
  | [], a, hh => hh (Chain.nil a)
  | o :: l, a, hh => by
    unfold wpQuiet at hh ⊢
    split
    · rename_i hw
      rw [if_pos hw] at hh
      obtain ⟨v, h1, h2⟩ := hh
      exact ⟨v, h1, quiet_chain l _ (wpQuiet_mono (fun b hb hc => hb (Chain.cons v hc)) l _ h2)⟩
    · rename_i hw
      rw [if_neg hw] at hh
      exact quiet_chain l _ (wpQuiet_mono (fun b hb hc => hb (Chain.cons undef hc)) l _ hh)
theorem Chain.all : ∀ {l : List Oper} {a b : Act} (_ : Chain l a b) (k : Nat), ∃ f, b = allL f l k a
  | [], _, _, h, _ => by cases h; exact ⟨fun _ => undef, rfl⟩
  | o :: l, a, b, h, k => by
    cases h with
    | cons v h =>
      obtain ⟨f, e⟩ := Chain.all h (k + 1)
      refine ⟨fun j => if j = k then v else f j, ?_⟩
      rw [allL, if_pos rfl, e]
      exact (allL_congr l (k + 1) _ fun j hj => by rw [if_neg (by omega)]).symm
where
  allL_congr {f g : Nat → Value} : ∀ (l : List Oper) (k : Nat) (a : Act), (∀ j, k ≤ j → f j = g j) → allL f l k a = allL g l k a
    | [], _, _, _ => rfl
    | o :: l, k, a, h => by rw [allL, allL, h k (Nat.le_refl _)]; exact allL_congr l (k + 1) _ fun j hj => h j (by omega)

/-- The region, out of its walk in the order of its text. -/
theorem quiet_region {id : Nat} {Q : Exit → Act → World → Prop} {w : World} {l : List Oper} (hm : P.follows .mixedOrders = true) (hB : Region.lexB .any l.toArray = true) (Fin : Act → Prop)
    (h : Shut (wpQuiet P l.toArray (fun w' => ∃ n, w' = w.drewN n) Fin l A)) (hQ : ∀ f q, Fin (allL f l 0 A) → Q .normal (allL f l 0 A) (w.drewN q)) : (Code.region id l.toArray true).wp P Q A w := by
  refine wp_region_quiet_lit hm hB (quiet_chain l A (wpQuiet_mono (fun b hb hc => ?_) l A h.out))
  rintro _ ⟨q, rfl⟩
  obtain ⟨f, rfl⟩ := hc.all 0
  exact hQ f q hb
end

end Go.Proofs.YthkiegaifkkegaaDoor
