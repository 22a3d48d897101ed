/- Plain words on fair parts: what fair reckons. No condition. -/
import Derived.Test.YtbndjailimhbdaaTSM
import Derived.Test.YtbndjailimhbdaaBits
namespace Go.Proofs.Ytbndjailimhbdaa
open Go.RowKit

def lsB (n : Nat) (f : Nat → Bool) : List Bool := (List.range n).map f
theorem lsB_len (n : Nat) (f : Nat → Bool) : (lsB n f).length = n := by simp [lsB]
theorem lsB_get (n : Nat) (f : Nat → Bool) {a : Nat} (h : a < n) : (lsB n f)[a]? = some (f a) := by simp [lsB, h]
theorem lsB_upd (n : Nat) (f : Nat → Bool) {a : Nat} (v : Bool) (h : a < n) : (lsB n f).set a v = lsB n (upd f a v) := by
  apply List.ext_getElem?
  intro i
  rw [List.getElem?_set, lsB_len]
  by_cases hi : i < n
  · rw [lsB_get n (upd f a v) hi]
    by_cases e : a = i
    · subst e; rw [if_pos rfl, if_pos h, upd_at]
    · rw [if_neg e, lsB_get n f hi, upd_ne _ _ (Ne.symm e)]
  · have e : a ≠ i := by omega
    rw [if_neg e, List.getElem?_eq_none (by rw [lsB_len]; omega), List.getElem?_eq_none (by rw [lsB_len]; omega)]
theorem lsB_false (n : Nat) : List.replicate n false = lsB n fun _ => false := by simp [lsB, List.map_const']

/-- The sets that the first spots of each part meet. -/
def orUp (pn bits : Nat → Nat) : Nat → Nat → Nat
  | 0, _ => 0
  | i + 1, m => if pn i = m then orUp pn bits i m ||| bits i else orUp pn bits i m
/-- Whether one of the first spots of a part leads back into it. -/
def lpUp (pn : Nat → Nat) (next : List (List Int)) : Nat → Nat → Bool
  | 0, _ => false
  | i + 1, m => lpUp pn next i m || (pn i == m && (nbs next i).any fun z => pn z.toNat == m)
def lpIn (pn : Nat → Nat) (next : List (List Int)) (i k m : Nat) : Bool := lpUp pn next i m || (pn i == m && ((nbs next i).take k).any fun z => pn z.toNat == m)
/-- A fair part, named by its least spot. -/
def fairB (pn : Nat → Nat) (next : List (List Int)) (bits : Nat → Nat) (M n m : Nat) : Bool := pn m == m && lpUp pn next n m && orUp pn bits n m == 2 ^ M - 1

theorem orUp_step (pn bits : Nat → Nat) (i : Nat) : upd (orUp pn bits i) (pn i) (orUp pn bits i (pn i) ||| bits i) = orUp pn bits (i + 1) := by
  funext m
  unfold upd
  by_cases e : m = pn i
  · subst e; simp [orUp]
  · rw [if_neg e]; simp [orUp, Ne.symm e]
theorem orUp_lt (pn bits : Nat → Nat) {M : Nat} (h : ∀ i, bits i < 2 ^ M) : ∀ i m, orUp pn bits i m < 2 ^ M
  | 0, _ => Nat.two_pow_pos M
  | i + 1, m => by
    unfold orUp
    split
    · exact Nat.or_lt_two_pow (orUp_lt pn bits h i m) (h i)
    · exact orUp_lt pn bits h i m
theorem lpIn_zero (pn : Nat → Nat) (next : List (List Int)) (i : Nat) : lpIn pn next i 0 = lpUp pn next i := by
  funext m; simp [lpIn]
theorem lpIn_done (pn : Nat → Nat) (next : List (List Int)) (i k : Nat) (h : k = (nbs next i).length) : lpIn pn next i k = lpUp pn next (i + 1) := by
  funext m; subst h; simp [lpIn, lpUp]
theorem lpIn_succ (pn : Nat → Nat) (next : List (List Int)) (i k z m : Nat) (h : (nbs next i)[k]? = some (z : Int)) : lpIn pn next i (k + 1) m = (lpIn pn next i k m || (pn i == m && pn z == m)) := by
  have e : (nbs next i).take (k + 1) = (nbs next i).take k ++ [(z : Int)] := by rw [List.take_add_one, h]; rfl
  unfold lpIn
  rw [e, List.any_append, List.any_cons, List.any_nil, Bool.or_false]
  cases lpUp pn next i m <;> cases pn i == m <;> simp
theorem lpIn_yes (pn : Nat → Nat) (next : List (List Int)) (i k z : Nat) (h : (nbs next i)[k]? = some (z : Int)) (hz : pn z = pn i) : upd (lpIn pn next i k) (pn i) true = lpIn pn next i (k + 1) := by
  funext m
  rw [lpIn_succ pn next i k z m h, hz]
  unfold upd
  by_cases e : m = pn i
  · subst e; simp
  · rw [if_neg e]; simp [Ne.symm e]
theorem lpIn_no (pn : Nat → Nat) (next : List (List Int)) (i k z : Nat) (h : (nbs next i)[k]? = some (z : Int)) (hz : pn z ≠ pn i) : lpIn pn next i k = lpIn pn next i (k + 1) := by
  funext m
  rw [lpIn_succ pn next i k z m h]
  have : (pn i == m && pn z == m) = false := by
    cases e : pn i == m
    · rfl
    · have e' : pn i = m := by simpa using e
      rw [e'] at hz
      simp [hz]
  rw [this, Bool.or_false]
theorem fair_upd (f : Nat → Bool) (i : Nat) (b : Bool) (hb : b = f i) : upd (fun m => if m < i then f m else false) i b = fun m => if m < i + 1 then f m else false := by
  funext m
  unfold upd
  by_cases e : m = i
  · subst e; rw [if_pos rfl]; simp [hb]
  · simp only [if_neg e]
    by_cases h : m < i
    · rw [if_pos h, if_pos (by omega)]
    · rw [if_neg h, if_neg (by omega)]
theorem lsB_cut (n : Nat) (f : Nat → Bool) : lsB n (fun m => if m < n then f m else false) = lsB n f := by
  unfold lsB
  exact List.map_congr_left fun a ha => by rw [if_pos (List.mem_range.1 ha)]

def bitsN (sets : List Int) (i : Nat) : Nat := (sets.getD i 0).toNat
theorem bitsN_eq {sets : List Int} {M i : Nat} (hb : ∀ s ∈ sets, (0 : Int) ≤ s ∧ s < (2 : Int) ^ M) (h : i < sets.length) : sets[i] = (bitsN sets i : Int) := by
  have := hb sets[i] (by simp)
  unfold bitsN
  rw [List.getD, List.getElem?_eq_getElem h]
  show _ = ((sets[i].toNat : Nat) : Int)
  omega
theorem bitsN_lt {sets : List Int} {M : Nat} (hb : ∀ s ∈ sets, (0 : Int) ≤ s ∧ s < (2 : Int) ^ M) (i : Nat) : bitsN sets i < 2 ^ M := by
  unfold bitsN
  by_cases h : i < sets.length
  · rw [List.getD, List.getElem?_eq_getElem h]
    have := hb sets[i] (by simp)
    have e : ((2 ^ M : Nat) : Int) = (2 : Int) ^ M := by push_cast; rfl
    show sets[i].toNat < _
    omega
  · rw [List.getD, List.getElem?_eq_none (by omega)]
    exact Nat.two_pow_pos M

end Go.Proofs.Ytbndjailimhbdaa
