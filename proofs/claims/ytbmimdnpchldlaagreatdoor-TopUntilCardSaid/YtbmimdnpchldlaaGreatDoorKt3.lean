/- Several texts in one: TSM; Bits; FairP; FairQ; FairD; WayD; WayP; WayM; MapG; WayE; RowC; WayA; LasC. No condition. -/
import Derived.Test.YtbmimdnpchldlaaGreatDoorKt2
import Derived.Test.YtbmimdnpchldlaaGreatDoorKt1
import Derived.ArgAppend
import Derived.MapKept
import Derived.Deep.LoopGhost
import Derived.Deep.Cut
import Derived.Deep.DeepCutAuto
import Derived.Deep.QuietTactic
import Derived.BigQuiet
namespace Go.Proofs.YtbmimdnpchldlaaGreatDoor
open Go.RowKit

def lst (n : Nat) (f : Nat → Nat) : List Int := (List.range n).map fun a => (f a : Int)
def lstI (n : Nat) (f : Nat → Int) : List Int := (List.range n).map f
def osL (os : List Nat) : List Int := os.reverse.map fun a : Nat => (a : Int)
def csL (cs : List (Nat × Nat)) : List Sp2 := cs.reverse.map fun p => ((p.1 : Int), (p.2 : Int))

theorem lst_len (n : Nat) (f : Nat → Nat) : (lst n f).length = n := by simp [lst]
theorem lst_get (n : Nat) (f : Nat → Nat) {a : Nat} (h : a < n) : (lst n f)[a]? = some (f a : Int) := by simp [lst, h]
theorem lst_getD (n : Nat) (f : Nat → Nat) {a : Nat} (h : a < n) : (lst n f).getD a 0 = (f a : Int) := by rw [List.getD, lst_get n f h]; rfl
theorem lstI_len (n : Nat) (f : Nat → Int) : (lstI n f).length = n := by simp [lstI]
theorem lstI_get (n : Nat) (f : Nat → Int) {a : Nat} (h : a < n) : (lstI n f)[a]? = some (f a) := by simp [lstI, h]
theorem lst_upd (n : Nat) (f : Nat → Nat) {a : Nat} (v : Nat) (h : a < n) : (lst n f).set a (v : Int) = lst n (upd f a v) := by
  apply List.ext_getElem?
  intro i
  rw [List.getElem?_set, lst_len]
  by_cases hi : i < n
  · rw [lst_get n (upd f a v) hi]
    by_cases e : a = i
    · subst e; rw [if_pos rfl, if_pos h, upd_at]
    · rw [if_neg e, lst_get n f hi, upd_ne _ _ (Ne.symm e)]
  · have e : a ≠ i := by omega
    rw [if_neg e, List.getElem?_eq_none (by rw [lst_len]; omega), List.getElem?_eq_none (by rw [lst_len]; omega)]
theorem lstI_upd (n : Nat) (f : Nat → Int) {a : Nat} (v : Int) (h : a < n) : (lstI n f).set a v = lstI n (upd f a v) := by
  apply List.ext_getElem?
  intro i
  rw [List.getElem?_set, lstI_len]
  by_cases hi : i < n
  · rw [lstI_get n (upd f a v) hi]
    by_cases e : a = i
    · subst e; rw [if_pos rfl, if_pos h, upd_at]
    · rw [if_neg e, lstI_get n f hi, upd_ne _ _ (Ne.symm e)]
  · have e : a ≠ i := by omega
    rw [if_neg e, List.getElem?_eq_none (by rw [lstI_len]; omega), List.getElem?_eq_none (by rw [lstI_len]; omega)]
theorem osL_cons (z : Nat) (os : List Nat) : osL (z :: os) = osL os ++ [(z : Int)] := by simp [osL]
theorem csL_cons (p : Nat × Nat) (cs : List (Nat × Nat)) : csL (p :: cs) = csL cs ++ [((p.1 : Int), (p.2 : Int))] := by simp [csL]
theorem osL_len (os : List Nat) : (osL os).length = os.length := by simp [osL]
theorem csL_len (cs : List (Nat × Nat)) : (csL cs).length = cs.length := by simp [csL]

/-- All of a part's spots are told its least. -/
theorem setAll_lst (n : Nat) (part : Nat → Int) (m : Int) : ∀ (D : List Nat), (∀ d ∈ D, d < n) → setAll (lstI n part) (D.map fun (d : Nat) => (d : Int)) m = lstI n (fun a => if a ∈ D then m else part a)
  | [], _ => by simp [setAll]
  | d :: D, h => by
    have hd := h d (by simp)
    have ih := setAll_lst n (upd part d m) m D (fun x hx => h x (List.mem_cons_of_mem _ hx))
    unfold setAll at ih ⊢
    rw [List.map_cons, List.foldl_cons]
    have e : ((d : Int)).toNat = d := by omega
    rw [e, lstI_upd n part m hd, ih]
    congr 1
    funext a
    by_cases h1 : a ∈ D
    · simp [h1]
    · by_cases h2 : a = d
      · subst h2; simp [h1, upd_at]
      · simp [h1, h2, upd_ne _ _ h2]

/-- The last frame's second cell is stored anew. -/
theorem frames_set {w : World} {B g cc : Nat} {cl : List Sp2} {x : Sp2} (h : w.ownsRow B 199 2 (.slice (some ⟨g, 0, none⟩) (cl.length + 1) cc) (cl.length + 1) (cl.flatMap spc ++ spc x)) (v : Int) :
    (w.setCell ⟨g, cl.length * 2 + 1, none⟩ (.int .i64 v)).ownsRow B 199 2 (.slice (some ⟨g, 0, none⟩) (cl.length + 1) cc) (cl.length + 1) (cl.flatMap spc ++ spc (x.1, v)) := by
  have hl := flat_opc_len cl
  refine ⟨by rw [List.length_append, hl]; simp [spc]; omega, ?_⟩
  rcases h.2 with ⟨hn, _⟩ | ⟨g', cap, cur, hv, hb, hgg, hnc, hcm, hcs, ht⟩
  · cases hn
  · simp only [Value.slice.injEq, Option.some.injEq, Addr.mk.injEq] at hv
    obtain ⟨⟨rfl, _, _⟩, _, rfl⟩ := hv
    refine .inr ⟨_, _, cur.setIfInBounds (cl.length * 2 + 1) (.int .i64 v), rfl, hb, blk_set hgg _, hnc, hcm, by simpa using hcs, ?_⟩
    rw [Array.toList_setIfInBounds, List.take_set, ht, List.set_append_right _ _ (by omega), hl]
    have e : cl.length * 2 + 1 - cl.length * 2 = 1 := by omega
    rw [e]
    rfl
theorem SM.setFrame {τ : Nat → Nat} {B P n Do Dl Dp : Nat} {g0 g1 g2 g3 g4 : Value} {w : World} {vo : Value} {ow lw pw : List Int} {ol : List Int} {cl : List Sp2} {x : Sp2} {met : Int} {g cc : Nat}
    (h : SM τ B P n Do Dl Dp g0 g1 g2 g3 g4 w vo (.slice (some ⟨g, 0, none⟩) (cl.length + 1) cc) ow lw pw ol (cl ++ [x]) met) (v : Int) :
    SM τ B P n Do Dl Dp g0 g1 g2 g3 g4 (w.setCell ⟨g, cl.length * 2 + 1, none⟩ (.int .i64 v)) vo (.slice (some ⟨g, 0, none⟩) (cl.length + 1) cc) ow lw pw ol (cl ++ [(x.1, v)]) met ∧ B ≤ g := by
  have tg : τ g = 5 := h.cls.tag g rfl
  have hP : P ≠ g := fun e => by have := h.tag; rw [e] at this; omega
  have hc := h.cls.own
  simp only [List.length_append, List.length_singleton, List.flatMap_append, List.flatMap_cons, List.flatMap_nil, List.append_nil] at hc
  have hs := frames_set hc v
  refine ⟨⟨blk_far h.blk (p := ⟨g, cl.length * 2 + 1, none⟩) (Ne.symm hP) _, h.ord.set (p := ⟨g, cl.length * 2 + 1, none⟩) (by show τ g ≠ 1; omega) _, h.low.set (p := ⟨g, cl.length * 2 + 1, none⟩) (by show τ g ≠ 2; omega) _, h.prt.set (p := ⟨g, cl.length * 2 + 1, none⟩) (by show τ g ≠ 3; omega) _, h.opn.set (p := ⟨g, cl.length * 2 + 1, none⟩) (by show τ g ≠ 4; omega) _, ?_, h.tag, h.new⟩, (h.cls.own.lt g rfl).1⟩
  refine ⟨?_, fun b hb => h.cls.tag b hb⟩
  simpa using hs

structure TSM (τ : Nat → Nat) (B P n : Nat) (Do Dl Dp : Nat) (g0 g1 g2 g3 g4 : Value) (w : World) (s : TS) : Prop where
  mem : ∃ vo vc, SM τ B P n Do Dl Dp g0 g1 g2 g3 g4 w vo vc (lst n s.ord) (lst n s.low) (lstI n s.part) (osL s.os) (csL s.cs) (s.met : Int)

/-- A list whose spots differ and lie below n is no longer than n. -/
theorem pairwise_len {n : Nat} {f : Nat → Nat} {l : List Nat} (hb : ∀ a ∈ l, a < n) (hp : l.Pairwise fun a b => f b < f a) : l.length ≤ n := by
  have hnd : l.Nodup := hp.imp fun h e => by subst e; omega
  have := hnd.length_le_of_subset (l₂ := List.range n) fun a ha => List.mem_range.2 (hb a ha)
  simpa using this

end Go.Proofs.YtbmimdnpchldlaaGreatDoor

namespace Go.Proofs.YtbmimdnpchldlaaGreatDoor
open Go.RowKit

theorem i64_wrap_small (n : Nat) (h : n < 9223372036854775808) : IntKind.i64.wrap (n : Int) = (n : Int) := by
  have e : (n : Int) % 2 ^ 64 = n := Int.emod_eq_of_lt (by omega) (by omega)
  simp only [IntKind.wrap, IntKind.bits, IntKind.signed, e]
  rw [if_neg]
  simp
  omega

theorem i64_ofInt (n : Nat) (h : n < 18446744073709551616) : (BitVec.ofInt 64 (n : Int)).toNat = n := by
  rw [BitVec.toNat_ofInt]
  omega

theorem i64_or_nat (a b : Nat) (ha : a < 9223372036854775808) (hb : b < 9223372036854775808) : bits .or .i64 (a : Int) (b : Int) = ((a ||| b : Nat) : Int) := by
  show IntKind.i64.wrap ((BitVec.ofInt 64 (a : Int) ||| BitVec.ofInt 64 (b : Int)).toNat : Int) = _
  rw [BitVec.toNat_or, i64_ofInt a (by omega), i64_ofInt b (by omega)]
  exact i64_wrap_small _ (Nat.or_lt_two_pow (n := 63) ha hb)

theorem i64_and_nat (a b : Nat) (ha : a < 9223372036854775808) (hb : b < 9223372036854775808) : bits .and .i64 (a : Int) (b : Int) = ((a &&& b : Nat) : Int) := by
  show IntKind.i64.wrap ((BitVec.ofInt 64 (a : Int) &&& BitVec.ofInt 64 (b : Int)).toNat : Int) = _
  rw [BitVec.toNat_and, i64_ofInt a (by omega), i64_ofInt b (by omega)]
  exact i64_wrap_small _ (Nat.lt_of_le_of_lt Nat.and_le_left ha)

theorem i64_xor_nat (a b : Nat) (ha : a < 9223372036854775808) (hb : b < 9223372036854775808) : bits .xor .i64 (a : Int) (b : Int) = ((a ^^^ b : Nat) : Int) := by
  show IntKind.i64.wrap ((BitVec.ofInt 64 (a : Int) ^^^ BitVec.ofInt 64 (b : Int)).toNat : Int) = _
  rw [BitVec.toNat_xor, i64_ofInt a (by omega), i64_ofInt b (by omega)]
  exact i64_wrap_small _ (Nat.xor_lt_two_pow (n := 63) ha hb)

/-- What lies apart is added. -/
theorem or_add (a b i : Nat) (hb : b < 2 ^ i) : (a * 2 ^ i) ||| b = a * 2 ^ i + b := by
  rw [Nat.mul_comm]
  exact (Nat.two_pow_add_eq_or_of_lt hb a).symm

end Go.Proofs.YtbmimdnpchldlaaGreatDoor

namespace Go.Proofs.YtbmimdnpchldlaaGreatDoor
open Go.RowKit

def lsB (n : Nat) (f : Nat → Bool) : List Bool := (List.range n).map f
theorem lsB_len (n : Nat) (f : Nat → Bool) : (lsB n f).length = n := by simp [lsB]
theorem lsB_get (n : Nat) (f : Nat → Bool) {a : Nat} (h : a < n) : (lsB n f)[a]? = some (f a) := by simp [lsB, h]
theorem lsB_upd (n : Nat) (f : Nat → Bool) {a : Nat} (v : Bool) (h : a < n) : (lsB n f).set a v = lsB n (upd f a v) := by
  apply List.ext_getElem?
  intro i
  rw [List.getElem?_set, lsB_len]
  by_cases hi : i < n
  · rw [lsB_get n (upd f a v) hi]
    by_cases e : a = i
    · subst e; rw [if_pos rfl, if_pos h, upd_at]
    · rw [if_neg e, lsB_get n f hi, upd_ne _ _ (Ne.symm e)]
  · have e : a ≠ i := by omega
    rw [if_neg e, List.getElem?_eq_none (by rw [lsB_len]; omega), List.getElem?_eq_none (by rw [lsB_len]; omega)]
theorem lsB_false (n : Nat) : List.replicate n false = lsB n fun _ => false := by simp [lsB, List.map_const']

/-- The sets that the first spots of each part meet. -/
def orUp (pn bits : Nat → Nat) : Nat → Nat → Nat
  | 0, _ => 0
  | i + 1, m => if pn i = m then orUp pn bits i m ||| bits i else orUp pn bits i m
/-- Whether one of the first spots of a part leads back into it. -/
def lpUp (pn : Nat → Nat) (next : List (List Int)) : Nat → Nat → Bool
  | 0, _ => false
  | i + 1, m => lpUp pn next i m || (pn i == m && (nbs next i).any fun z => pn z.toNat == m)
def lpIn (pn : Nat → Nat) (next : List (List Int)) (i k m : Nat) : Bool := lpUp pn next i m || (pn i == m && ((nbs next i).take k).any fun z => pn z.toNat == m)
/-- A fair part, named by its least spot. -/
def fairB (pn : Nat → Nat) (next : List (List Int)) (bits : Nat → Nat) (M n m : Nat) : Bool := pn m == m && lpUp pn next n m && orUp pn bits n m == 2 ^ M - 1

theorem orUp_step (pn bits : Nat → Nat) (i : Nat) : upd (orUp pn bits i) (pn i) (orUp pn bits i (pn i) ||| bits i) = orUp pn bits (i + 1) := by
  funext m
  unfold upd
  by_cases e : m = pn i
  · subst e; simp [orUp]
  · rw [if_neg e]; simp [orUp, Ne.symm e]
theorem orUp_lt (pn bits : Nat → Nat) {M : Nat} (h : ∀ i, bits i < 2 ^ M) : ∀ i m, orUp pn bits i m < 2 ^ M
  | 0, _ => Nat.two_pow_pos M
  | i + 1, m => by
    unfold orUp
    split
    · exact Nat.or_lt_two_pow (orUp_lt pn bits h i m) (h i)
    · exact orUp_lt pn bits h i m
theorem lpIn_zero (pn : Nat → Nat) (next : List (List Int)) (i : Nat) : lpIn pn next i 0 = lpUp pn next i := by
  funext m; simp [lpIn]
theorem lpIn_done (pn : Nat → Nat) (next : List (List Int)) (i k : Nat) (h : k = (nbs next i).length) : lpIn pn next i k = lpUp pn next (i + 1) := by
  funext m; subst h; simp [lpIn, lpUp]
theorem lpIn_succ (pn : Nat → Nat) (next : List (List Int)) (i k z m : Nat) (h : (nbs next i)[k]? = some (z : Int)) : lpIn pn next i (k + 1) m = (lpIn pn next i k m || (pn i == m && pn z == m)) := by
  have e : (nbs next i).take (k + 1) = (nbs next i).take k ++ [(z : Int)] := by rw [List.take_add_one, h]; rfl
  unfold lpIn
  rw [e, List.any_append, List.any_cons, List.any_nil, Bool.or_false]
  cases lpUp pn next i m <;> cases pn i == m <;> simp
theorem lpIn_yes (pn : Nat → Nat) (next : List (List Int)) (i k z : Nat) (h : (nbs next i)[k]? = some (z : Int)) (hz : pn z = pn i) : upd (lpIn pn next i k) (pn i) true = lpIn pn next i (k + 1) := by
  funext m
  rw [lpIn_succ pn next i k z m h, hz]
  unfold upd
  by_cases e : m = pn i
  · subst e; simp
  · rw [if_neg e]; simp [Ne.symm e]
theorem lpIn_no (pn : Nat → Nat) (next : List (List Int)) (i k z : Nat) (h : (nbs next i)[k]? = some (z : Int)) (hz : pn z ≠ pn i) : lpIn pn next i k = lpIn pn next i (k + 1) := by
  funext m
  rw [lpIn_succ pn next i k z m h]
  have : (pn i == m && pn z == m) = false := by
    cases e : pn i == m
    · rfl
    · have e' : pn i = m := by simpa using e
      rw [e'] at hz
      simp [hz]
  rw [this, Bool.or_false]
theorem fair_upd (f : Nat → Bool) (i : Nat) (b : Bool) (hb : b = f i) : upd (fun m => if m < i then f m else false) i b = fun m => if m < i + 1 then f m else false := by
  funext m
  unfold upd
  by_cases e : m = i
  · subst e; rw [if_pos rfl]; simp [hb]
  · simp only [if_neg e]
    by_cases h : m < i
    · rw [if_pos h, if_pos (by omega)]
    · rw [if_neg h, if_neg (by omega)]
theorem lsB_cut (n : Nat) (f : Nat → Bool) : lsB n (fun m => if m < n then f m else false) = lsB n f := by
  unfold lsB
  exact List.map_congr_left fun a ha => by rw [if_pos (List.mem_range.1 ha)]

def bitsN (sets : List Int) (i : Nat) : Nat := (sets.getD i 0).toNat
theorem bitsN_eq {sets : List Int} {M i : Nat} (hb : ∀ s ∈ sets, (0 : Int) ≤ s ∧ s < (2 : Int) ^ M) (h : i < sets.length) : sets[i] = (bitsN sets i : Int) := by
  have := hb sets[i] (by simp)
  unfold bitsN
  rw [List.getD, List.getElem?_eq_getElem h]
  show _ = ((sets[i].toNat : Nat) : Int)
  omega
theorem bitsN_lt {sets : List Int} {M : Nat} (hb : ∀ s ∈ sets, (0 : Int) ≤ s ∧ s < (2 : Int) ^ M) (i : Nat) : bitsN sets i < 2 ^ M := by
  unfold bitsN
  by_cases h : i < sets.length
  · rw [List.getD, List.getElem?_eq_getElem h]
    have := hb sets[i] (by simp)
    have e : ((2 ^ M : Nat) : Int) = (2 : Int) ^ M := by push_cast; rfl
    show sets[i].toNat < _
    omega
  · rw [List.getD, List.getElem?_eq_none (by omega)]
    exact Nat.two_pow_pos M

end Go.Proofs.YtbmimdnpchldlaaGreatDoor

namespace Go.Proofs.YtbmimdnpchldlaaGreatDoor
open Go.RowKit

/-- Each reaches the other. -/
def Same (next : List (List Int)) (a b : Nat) : Prop := Reach next a b ∧ Reach next b a
theorem Same.refl (next : List (List Int)) (a : Nat) : Same next a a := ⟨Reach.refl _, Reach.refl _⟩
theorem Same.symm {next : List (List Int)} {a b : Nat} (h : Same next a b) : Same next b a := ⟨h.2, h.1⟩
theorem Same.trans {next : List (List Int)} {a b c : Nat} (h : Same next a b) (k : Same next b c) : Same next a c := ⟨h.1.trans k.1, k.2.trans h.2⟩

/-- What goes round in a part, meets all sets, is named by its least spot. -/
structure FairAt (next : List (List Int)) (bits : Nat → Nat) (M n m : Nat) : Prop where
  least : ∀ b, Same next m b → m ≤ b
  loop : ∃ i k, i < n ∧ Same next m i ∧ Edge next i k ∧ Same next m k
  sets : ∀ t, t < M → ∃ i, i < n ∧ Same next m i ∧ (bits i).testBit t = true

theorem orUp_bit (pn bits : Nat → Nat) (m t : Nat) : ∀ i, (orUp pn bits i m).testBit t = true ↔ ∃ j, j < i ∧ pn j = m ∧ (bits j).testBit t = true
  | 0 => by simp [orUp]
  | i + 1 => by
    have ih := orUp_bit pn bits m t i
    unfold orUp
    split
    · rename_i e
      rw [Nat.testBit_or, Bool.or_eq_true, ih]
      constructor
      · rintro (⟨j, h1, h2, h3⟩ | h)
        · exact ⟨j, by omega, h2, h3⟩
        · exact ⟨i, by omega, e, h⟩
      · rintro ⟨j, h1, h2, h3⟩
        by_cases hj : j = i
        · subst hj; exact .inr h3
        · exact .inl ⟨j, by omega, h2, h3⟩
    · rename_i e
      rw [ih]
      constructor
      · rintro ⟨j, h1, h2, h3⟩
        exact ⟨j, by omega, h2, h3⟩
      · rintro ⟨j, h1, h2, h3⟩
        by_cases hj : j = i
        · subst hj; exact absurd h2 e
        · exact ⟨j, by omega, h2, h3⟩

theorem full_iffG {o M : Nat} (h : o < 2 ^ M) : o = 2 ^ M - 1 ↔ ∀ t, t < M → o.testBit t = true := by
  constructor
  · rintro rfl t ht
    rw [Nat.testBit_two_pow_sub_one]
    simpa using ht
  · intro hb
    apply Nat.eq_of_testBit_eq
    intro t
    rw [Nat.testBit_two_pow_sub_one]
    by_cases ht : t < M
    · rw [hb t ht]; simp [ht]
    · rw [Nat.testBit_lt_two_pow (Nat.lt_of_lt_of_le h (Nat.pow_le_pow_right (by omega) (by omega)))]
      simp [ht]

theorem lpUp_iff (pn : Nat → Nat) (next : List (List Int)) (m : Nat) : ∀ i, lpUp pn next i m = true ↔ ∃ j, j < i ∧ pn j = m ∧ ∃ z ∈ nbs next j, pn z.toNat = m
  | 0 => by simp [lpUp]
  | i + 1 => by
    have ih := lpUp_iff pn next m i
    unfold lpUp
    rw [Bool.or_eq_true, ih, Bool.and_eq_true, beq_iff_eq, List.any_eq_true]
    simp only [beq_iff_eq]
    constructor
    · rintro (⟨j, h1, h2, h3⟩ | ⟨h1, h2⟩)
      · exact ⟨j, by omega, h2, h3⟩
      · exact ⟨i, by omega, h1, h2⟩
    · rintro ⟨j, h1, h2, h3⟩
      by_cases hj : j = i
      · subst hj; exact .inr ⟨h2, h3⟩
      · exact .inl ⟨j, by omega, h2, h3⟩

theorem edge_in {n : Nat} {next : List (List Int)} (hI : Inside n next) (hn : next.length = n) {i k : Nat} (h : Edge next i k) : i < n ∧ k < n := by
  obtain ⟨l, h1, h2⟩ := h
  obtain ⟨hl, e⟩ := List.getElem?_eq_some_iff.1 h1
  have := hI l (by rw [← e]; simp) _ h2
  omega

theorem reach_in {n : Nat} {next : List (List Int)} (hI : Inside n next) (hn : next.length = n) {a b : Nat} (h : Reach next a b) (ha : a < n) : b < n := by
  cases h with
  | refl => exact ha
  | step _ h2 => exact (edge_in hI hn h2).2

theorem fairB_iff {n : Nat} {next : List (List Int)} {part : Nat → Int} {pn bits : Nat → Nat} {M m : Nat} (hp : ∀ a, a < n → PartOk next part a) (hpn : ∀ a, a < n → part a = (pn a : Int)) (hI : Inside n next) (hn : next.length = n) (hb : ∀ i, bits i < 2 ^ M) (hm : m < n) :
    fairB pn next bits M n m = true ↔ FairAt next bits M n m := by
  have hsame : ∀ a b, a < n → b < n → (pn a = pn b ↔ Same next a b) := fun a b ha hb => by
    rw [Same, ← part_iff (hp a ha) (hp b hb), hpn a ha, hpn b hb]
    omega
  have hleast : pn m = m ↔ ∀ b, Same next m b → m ≤ b := by
    obtain ⟨m', h1, h2, h3, h4⟩ := hp m hm
    rw [hpn m hm] at h1
    constructor
    · intro e b hb'
      have := h4 b hb'.1 hb'.2
      omega
    · intro h
      have a1 := h m' ⟨h2, h3⟩
      have a2 := h4 m (Reach.refl _) (Reach.refl _)
      omega
  have hat : ∀ i, i < n → pn m = m → (pn i = m ↔ Same next m i) := fun i hi e => by
    rw [← hsame m i hm hi, e]
    exact eq_comm
  unfold fairB
  rw [Bool.and_eq_true, Bool.and_eq_true, beq_iff_eq, beq_iff_eq, lpUp_iff, full_iffG (orUp_lt pn bits hb n m)]
  constructor
  · rintro ⟨⟨h1, j, hj, h2, z, hz, h3⟩, h4⟩
    refine ⟨hleast.1 h1, ?_, fun t ht => ?_⟩
    · obtain ⟨z0, z1⟩ : 0 ≤ z ∧ z < n := by
        unfold nbs at hz
        rw [List.getD, List.getElem?_eq_getElem (by omega)] at hz
        exact hI _ (by simp) _ hz
      refine ⟨j, z.toNat, hj, (hat j hj h1).1 h2, edge_iff.2 ?_, (hat z.toNat (by omega) h1).1 h3⟩
      rw [show ((z.toNat : Nat) : Int) = z by omega]
      exact hz
    · obtain ⟨i, a1, a2, a3⟩ := (orUp_bit pn bits m t n).1 (h4 t ht)
      exact ⟨i, a1, (hat i a1 h1).1 a2, a3⟩
  · rintro ⟨h1, ⟨i, k, hi, h2, h3, h4⟩, h5⟩
    have e := hleast.2 h1
    refine ⟨⟨e, i, hi, (hat i hi e).2 h2, (k : Int), edge_iff.1 h3, (hat k (edge_in hI hn h3).2 e).2 h4⟩, fun t ht => ?_⟩
    obtain ⟨i, a1, a2, a3⟩ := h5 t ht
    exact (orUp_bit pn bits m t n).2 ⟨i, a1, (hat i a1 e).2 a2, a3⟩

/-- Parts' numbers as Nats. -/
theorem part_nat {n : Nat} {next : List (List Int)} {part : Nat → Int} (hI : Inside n next) (hn : next.length = n) (hp : ∀ a, a < n → PartOk next part a) : ∃ pn : Nat → Nat, lstI n part = lst n pn ∧ (∀ a, a < n → part a = (pn a : Int)) ∧ ∀ a, a < n → pn a < n := by
  have h : ∀ a, a < n → part a = ((part a).toNat : Int) ∧ (part a).toNat < n := fun a ha => by
    obtain ⟨m, h1, h2, h3, h4⟩ := hp a ha
    have := reach_in hI hn h2 ha
    omega
  refine ⟨fun a => (part a).toNat, ?_, fun a ha => (h a ha).1, fun a ha => (h a ha).2⟩
  unfold lstI lst
  exact List.map_congr_left fun a ha => (h a (List.mem_range.1 ha)).1

end Go.Proofs.YtbmimdnpchldlaaGreatDoor

namespace Go.Proofs.YtbmimdnpchldlaaGreatDoor

/-- A fair part that is reached. -/
def FairR (next : List (List Int)) (bits : Nat → Nat) (M n init m : Nat) : Prop := m < n ∧ FairAt next bits M n m ∧ ∃ s, s < init ∧ Reach next s m

end Go.Proofs.YtbmimdnpchldlaaGreatDoor

namespace Go.Proofs.YtbmimdnpchldlaaGreatDoor

/-- A way: the spots that it leaves, one behind the other, up to where it ends. -/
inductive Way (next : List (List Int)) : Nat → List Nat → Nat → Prop
  | nil (a : Nat) : Way next a [] a
  | cons {a b c : Nat} {l : List Nat} : Edge next a c → Way next c l b → Way next a (a :: l) b

section
variable {next : List (List Int)}
theorem Way.app {a b c : Nat} {l k : List Nat} (h : Way next a l b) (g : Way next b k c) : Way next a (l ++ k) c := by
  induction h with
  | nil => exact g
  | cons e _ ih => exact .cons e (ih g)
theorem Way.one {a b : Nat} (h : Edge next a b) : Way next a [a] b := .cons h (.nil _)
theorem Way.reach {a b : Nat} {l : List Nat} (h : Way next a l b) : Reach next a b := by
  induction h with
  | nil => exact .refl _
  | cons e _ ih => exact (Reach.edge e).trans ih
theorem Way.of_reach {a b : Nat} (h : Reach next a b) : ∃ l, Way next a l b := by
  induction h with
  | refl => exact ⟨[], .nil _⟩
  | step _ e ih =>
    obtain ⟨l, hl⟩ := ih
    exact ⟨l ++ [_], hl.app (.one e)⟩
theorem Way.edge {a b : Nat} {l : List Nat} (h : Way next a l b) : ∀ i (hi : i < l.length), Edge next l[i] (if h : i + 1 < l.length then l[i + 1] else b) := by
  induction h with
  | nil => intro i hi; simp at hi
  | @cons a b c l e hw ih =>
    intro i hi
    cases i with
    | zero =>
      cases hw with
      | nil => simpa using e
      | cons e2 hw2 => simpa using e
    | succ i =>
      have := ih i (by simpa using hi)
      simpa using this
theorem Way.head {a b : Nat} {l : List Nat} (h : Way next a l b) : ∃ r, l ++ [b] = a :: r := by
  cases h with
  | nil => exact ⟨[], rfl⟩
  | cons e h => exact ⟨_, rfl⟩
theorem Way.head0 {a b : Nat} {l : List Nat} (h : Way next a l b) : (l ++ [b])[0]? = some a := by
  obtain ⟨r, hr⟩ := h.head
  rw [hr]; rfl
theorem Way.all {a b : Nat} {l : List Nat} (h : Way next a l b) : ∀ i ∈ l, Reach next a i ∧ Reach next i b := by
  induction h with
  | nil => intro i hi; simp at hi
  | cons e hw ih =>
    intro i hi
    rcases List.mem_cons.1 hi with rfl | hi
    · exact ⟨.refl _, (Reach.edge e).trans hw.reach⟩
    · exact ⟨(Reach.edge e).trans (ih i hi).1, (ih i hi).2⟩

/-- A way from one of some spots through such as are wanted on the way to one that is wanted. -/
def WayTo (next : List (List Int)) (F : List Nat) (ins wan : Nat → Bool) (l : List Nat) (b : Nat) : Prop :=
  ∃ a ∈ F, Way next a l b ∧ wan b = true ∧ ∀ x ∈ (l ++ [b]).tail, ins x = true

/-- A way that goes round in a fair part and meets all sets. -/
theorem FairAt.round {bits : Nat → Nat} {M n m : Nat} (h : FairAt next bits M n m) : ∃ l, 0 < l.length ∧ Way next m l m ∧ ∀ t, t < M → ∃ i ∈ l, (bits i).testBit t = true := by
  have key : ∀ M', M' ≤ M → ∃ l, Way next m l m ∧ ∀ t, t < M' → ∃ i ∈ l ++ [m], (bits i).testBit t = true := by
    intro M'
    induction M' with
    | zero => intro _; exact ⟨[], .nil _, fun t ht => by omega⟩
    | succ M' ih =>
      intro hM
      obtain ⟨l, hl, hb⟩ := ih (by omega)
      obtain ⟨i, hi, hs, hbit⟩ := h.sets M' (by omega)
      obtain ⟨l1, h1⟩ := Way.of_reach hs.1
      obtain ⟨l2, h2⟩ := Way.of_reach hs.2
      refine ⟨l ++ (l1 ++ l2), hl.app (h1.app h2), fun t ht => ?_⟩
      by_cases e : t = M'
      · subst e
        refine ⟨i, ?_, hbit⟩
        have hh := h2.head0
        cases l2 with
        | nil => simp at hh; subst hh; simp
        | cons y l2 => simp at hh; subst hh; simp
      · obtain ⟨j, hj, hb2⟩ := hb t (by omega)
        refine ⟨j, ?_, hb2⟩
        rcases List.mem_append.1 hj with hj | hj
        · exact List.mem_append_left _ (List.mem_append_left _ hj)
        · exact List.mem_append_right _ hj
  obtain ⟨l, hl, hb⟩ := key M (Nat.le_refl _)
  obtain ⟨i, k, hi, hs, he, hs2⟩ := h.loop
  obtain ⟨l1, h1⟩ := Way.of_reach hs.1
  obtain ⟨l2, h2⟩ := Way.of_reach hs2.2
  have h3 : Way next m (l1 ++ (i :: l2)) m := h1.app (.cons he h2)
  refine ⟨(l1 ++ (i :: l2)) ++ l, by simp; omega, h3.app hl, fun t ht => ?_⟩
  obtain ⟨j, hj, hb2⟩ := hb t ht
  refine ⟨j, ?_, hb2⟩
  rcases List.mem_append.1 hj with hj | hj
  · exact List.mem_append_right _ hj
  · simp at hj
    subst hj
    have hh := h3.head0
    cases hl1 : l1 ++ (i :: l2) with
    | nil => simp at hl1
    | cons y r => rw [hl1] at hh; simp at hh; subst hh; simp
end

end Go.Proofs.YtbmimdnpchldlaaGreatDoor

namespace Go.Proofs.YtbmimdnpchldlaaGreatDoor

/-- A search: F where it began; Q what was met, in its order; par what led there (-1: it began there); i so many are gone through, and of the next one so many steps. -/
structure BInv (next : List (List Int)) (ins wan : Nat → Bool) (F Q : List Nat) (par : List Int) (i c : Nat) : Prop where
  nd : Q.Nodup
  pl : par.length = Q.length
  pre : Q.take F.length = F
  fl : F.length ≤ Q.length
  root : ∀ j, j < F.length → par[j]? = some (-1)
  tree : ∀ j, F.length ≤ j → j < Q.length → ∃ p q k, p < j ∧ Q[p]? = some q ∧ Q[j]? = some k ∧ par[j]? = some (q : Int) ∧ Edge next q k ∧ ins k = true
  nw : ∀ q ∈ Q, wan q = false
  il : i ≤ Q.length
  cl : ∀ j q, j < i → Q[j]? = some q → ∀ k, Edge next q k → ins k = true → k ∈ Q
  cc : ∀ q l, Q[i]? = some q → next[q]? = some l → ∀ k : Nat, (k : Int) ∈ l.take c → ins k = true → k ∈ Q

section
variable {next : List (List Int)} {ins wan : Nat → Bool} {F Q : List Nat} {par : List Int} {i c : Nat}

theorem BInv.start (hF : F.Nodup) (hw : ∀ q ∈ F, wan q = false) : BInv next ins wan F F (List.replicate F.length (-1)) 0 0 where
  nd := hF
  pl := by simp
  pre := List.take_length
  fl := Nat.le_refl _
  root := fun j hj => by rw [List.getElem?_replicate, if_pos hj]
  tree := fun j h1 h2 => by omega
  nw := hw
  il := Nat.zero_le _
  cl := fun j q h => by omega
  cc := fun q l _ _ k hk => by simp at hk

theorem BInv.next_ (h : BInv next ins wan F Q par i c) {q : Nat} {l : List Int} (hq : Q[i]? = some q) (hl : next[q]? = some l) (hc : l.length ≤ c) : BInv next ins wan F Q par (i + 1) 0 where
  nd := h.nd
  pl := h.pl
  pre := h.pre
  fl := h.fl
  root := h.root
  tree := h.tree
  nw := h.nw
  il := (List.getElem?_eq_some_iff.1 hq).1
  cl := fun j q' hj hq' k he hi => by
    by_cases e : j = i
    · subst e
      obtain rfl := Option.some.inj (hq.symm.trans hq')
      obtain ⟨l', h1, h2⟩ := he
      obtain rfl := Option.some.inj (hl.symm.trans h1)
      exact h.cc q l hq hl k (by rw [List.take_of_length_le hc]; exact h2) hi
    · exact h.cl j q' (by omega) hq' k he hi
  cc := fun q l _ _ k hk => by simp at hk

theorem BInv.skip (h : BInv next ins wan F Q par i c) {q : Nat} {l : List Int} (hq : Q[i]? = some q) (hl : next[q]? = some l) {k : Nat} (hk : l[c]? = some (k : Int)) (hs : ins k = true → k ∈ Q) : BInv next ins wan F Q par i (c + 1) where
  nd := h.nd
  pl := h.pl
  pre := h.pre
  fl := h.fl
  root := h.root
  tree := h.tree
  nw := h.nw
  il := h.il
  cl := h.cl
  cc := fun q' l' hq' hl' k' hk' hi => by
    obtain rfl := Option.some.inj (hq.symm.trans hq')
    obtain rfl := Option.some.inj (hl.symm.trans hl')
    rw [List.take_add_one, hk] at hk'
    rcases List.mem_append.1 hk' with hk' | hk'
    · exact h.cc q l hq hl k' hk' hi
    · simp at hk'
      have : k' = k := by omega
      subst this
      exact hs hi

theorem BInv.put (h : BInv next ins wan F Q par i c) {q : Nat} {l : List Int} (hq : Q[i]? = some q) (hl : next[q]? = some l) {k : Nat} (hk : l[c]? = some (k : Int)) (hn : k ∉ Q) (hi : ins k = true) (hw : wan k = false) : BInv next ins wan F (Q ++ [k]) (par ++ [(q : Int)]) i (c + 1) := by
  have hil := (List.getElem?_eq_some_iff.1 hq).1
  refine ⟨?_, by simp [h.pl], ?_, ?_, ?_, ?_, ?_, ?_, ?_, ?_⟩
  · rw [List.nodup_append]
    refine ⟨h.nd, by simp, ?_⟩
    intro a ha b hb e
    simp at hb
    subst hb; subst e
    exact hn ha
  · rw [List.take_append_of_le_length h.fl]; exact h.pre
  · have := h.fl; simp; omega
  · intro j hj
    rw [List.getElem?_append_left (by have := h.fl; rw [h.pl]; omega)]
    exact h.root j hj
  · intro j h1 h2
    by_cases e : j < Q.length
    · obtain ⟨p, q', k', a1, a2, a3, a4, a5, a6⟩ := h.tree j h1 e
      exact ⟨p, q', k', a1, by rw [List.getElem?_append_left (by omega)]; exact a2, by rw [List.getElem?_append_left e]; exact a3, by rw [List.getElem?_append_left (by rw [h.pl]; exact e)]; exact a4, a5, a6⟩
    · have e2 : j = Q.length := by simp at h2; omega
      subst e2
      refine ⟨i, q, k, hil, by rw [List.getElem?_append_left hil]; exact hq, by simp, by rw [← h.pl]; simp, ⟨l, hl, List.mem_of_getElem? hk⟩, hi⟩
  · intro x hx
    rcases List.mem_append.1 hx with hx | hx
    · exact h.nw x hx
    · simp at hx; subst hx; exact hw
  · simp; omega
  · intro j q' hj hq' k' he hi'
    rw [List.getElem?_append_left (by omega)] at hq'
    exact List.mem_append_left _ (h.cl j q' hj hq' k' he hi')
  · intro q' l' hq' hl' k' hk' hi'
    rw [List.getElem?_append_left hil] at hq'
    obtain rfl := Option.some.inj (hq.symm.trans hq')
    obtain rfl := Option.some.inj (hl.symm.trans hl')
    rw [List.take_add_one, hk] at hk'
    rcases List.mem_append.1 hk' with hk' | hk'
    · exact List.mem_append_left _ (h.cc q l hq hl k' hk' hi')
    · simp at hk'
      have : k' = k := by omega
      subst this
      simp

/-- When all is gone through nothing that is wanted can be come to. -/
theorem BInv.none_ (h : BInv next ins wan F Q par Q.length 0) {l : List Nat} {b : Nat} : ¬ WayTo next F ins wan l b := by
  rintro ⟨a, ha, hw, hb, hi⟩
  have ha2 : a ∈ Q := by
    rw [← h.pre] at ha
    exact List.mem_of_mem_take ha
  have key : ∀ {a l b}, Way next a l b → a ∈ Q → (∀ x ∈ (l ++ [b]).tail, ins x = true) → b ∈ Q := by
    intro a l b hw
    induction hw with
    | nil => intro h _; exact h
    | @cons a b c l e hw ih =>
      intro ha hi
      obtain ⟨j, hj, e2⟩ := List.mem_iff_getElem.1 ha
      obtain ⟨r, hr⟩ := hw.head
      have hall : ∀ x ∈ l ++ [b], ins x = true := fun x hx => hi x (by simpa using hx)
      have hc : c ∈ Q := h.cl j a hj (by rw [List.getElem?_eq_getElem hj, e2]) c e (hall c (by rw [hr]; simp))
      exact ih hc fun x hx => hall x (by rw [hr] at hx ⊢; simp at hx ⊢; exact .inr hx)
  have := h.nw b (key hw ha2 hi)
  rw [hb] at this
  cases this

/-- While a way is read back: l is what was read; k what comes next. -/
structure Back (next : List (List Int)) (ins wan : Nat → Bool) (F : List Nat) (k : Nat) (l : List Nat) : Prop where
  way : ∃ r b, l = r ++ [b] ∧ wan b = true ∧ ∃ a, Edge next k a ∧ Way next a r b ∧ ∀ x ∈ l, ins x = true

theorem Back.more {k q : Nat} {l : List Nat} (h : Back next ins wan F k l) (he : Edge next q k) (hi : ins k = true) : Back next ins wan F q (k :: l) := by
  obtain ⟨r, b, rfl, hb, a, h1, h2, h3⟩ := h.way
  refine ⟨k :: r, b, rfl, hb, k, he, .cons h1 h2, fun x hx => ?_⟩
  rcases List.mem_cons.1 hx with rfl | hx
  · exact hi
  · exact h3 x hx
theorem Back.first {k q : Nat} (he : Edge next q k) (hi : ins k = true) (hw : wan k = true) : Back next ins wan F q [k] :=
  ⟨[], k, rfl, hw, k, he, .nil _, fun x hx => by simp at hx; subst hx; exact hi⟩
theorem Back.done {k : Nat} {l : List Nat} (h : Back next ins wan F k l) (hk : k ∈ F) : ∃ r b, k :: l = r ++ [b] ∧ WayTo next F ins wan r b := by
  obtain ⟨r, b, rfl, hb, a, h1, h2, h3⟩ := h.way
  exact ⟨k :: r, b, rfl, k, hk, .cons h1 h2, hb, fun x hx => h3 x (by simpa using hx)⟩
end

end Go.Proofs.YtbmimdnpchldlaaGreatDoor

namespace Go.Proofs.YtbmimdnpchldlaaGreatDoor
open Go.RowKit

/-- The slice v holds the cells xs in a block of the call's own, from some place on. -/
def OffRow (w : World) (base : Nat) (e : TypeId) (v : Value) (n : Nat) (xs : List Value) : Prop :=
  ∃ g off cap cur, v = .slice (some ⟨g, off, none⟩) n cap ∧ base ≤ g ∧ w.heap[g]? = some (.cells cur e (0, 0)) ∧ xs.length = n ∧ n ≤ cap ∧ cap ≤ maxLen ∧ off + cap ≤ cur.size ∧ ∀ j u, xs[j]? = some u → cur[off + j]? = some u

section
variable {w w' : World} {base : Nat} {e : TypeId} {v : Value} {n : Nat} {xs : List Value}
theorem OffRow.of_own (h : w.ownsRow base e 1 v n xs) (hn : 0 < n) : OffRow w base e v n xs := by
  have hl := h.1
  rw [Nat.mul_one] at hl
  rcases h.2 with ⟨_, h0⟩ | ⟨g, cap, cur, hv, hb, hg, hnc, hcm, hcs, htake⟩
  · omega
  · refine ⟨g, 0, cap, cur, hv, hb, hg, hl, hnc, hcm, by omega, fun j u hu => ?_⟩
    rw [← htake, List.getElem?_take] at hu
    split at hu
    · simpa using hu
    · cases hu
theorem OffRow.ext (h : OffRow w base e v n xs) (hE : Ext w w') : OffRow w' base e v n xs := by
  obtain ⟨g, off, cap, cur, h1, h2, h3, h4⟩ := h
  exact ⟨g, off, cap, cur, h1, h2, blk_ext h3 hE, h4⟩
theorem OffRow.grown {row : Option Nat} (h : OffRow w base e v n xs) (hg : w.grownBy w' row) (hr : ∀ b, row = some b → b < base) : OffRow w' base e v n xs := by
  obtain ⟨g, off, cap, cur, h1, h2, h3, h4⟩ := h
  exact ⟨g, off, cap, cur, h1, h2, blk_grown h3 hg (fun e => by have := hr g e.symm; omega), h4⟩
theorem OffRow.cell {g off cap : Nat} (h : OffRow w base e (.slice (some ⟨g, off, none⟩) n cap) n xs) {j : Nat} {u : Value} (hu : xs[j]? = some u) : w.cell? ⟨g, off + j, none⟩ = some u := by
  obtain ⟨g', off', cap', cur, h1, h2, h3, h4, h5, h6, h7, h8⟩ := h
  simp only [Value.slice.injEq, Option.some.injEq, Addr.mk.injEq] at h1
  obtain ⟨⟨rfl, rfl, -⟩, -, rfl⟩ := h1
  exact blk_cell h3 (h8 j u hu)
theorem OffRow.form (h : OffRow w base e v n xs) : ∃ g off cap, v = .slice (some ⟨g, off, none⟩) n cap ∧ base ≤ g ∧ n ≤ cap ∧ cap ≤ maxLen ∧ g < w.heap.size := by
  obtain ⟨g, off, cap, cur, h1, h2, h3, h4, h5, h6, h7, h8⟩ := h
  exact ⟨g, off, cap, h1, h2, h5, h6, blk_lt h3⟩
/-- All but the first one. -/
theorem OffRow.rest {g off cap : Nat} {x : Value} (h : OffRow w base e (.slice (some ⟨g, off, none⟩) (n + 1) cap) (n + 1) (x :: xs)) : OffRow w base e (.slice (if cap = 1 then some ⟨g, off, none⟩ else some ⟨g, off + 1, none⟩) n (cap - 1)) n xs := by
  obtain ⟨g', off', cap', cur, h1, h2, h3, h4, h5, h6, h7, h8⟩ := h
  simp only [Value.slice.injEq, Option.some.injEq, Addr.mk.injEq] at h1
  obtain ⟨⟨rfl, rfl, -⟩, -, rfl⟩ := h1
  simp only [List.length_cons] at h4
  by_cases hc : cap = 1
  · rw [if_pos hc]
    have hx : xs = [] := List.eq_nil_of_length_eq_zero (by omega)
    subst hx
    exact ⟨g, off, cap - 1, cur, rfl, h2, h3, by simp only [List.length_nil] at h4 ⊢; omega, by omega, by omega, by omega, by intro j u hu; simp at hu⟩
  · rw [if_neg hc]
    exact ⟨g, off + 1, cap - 1, cur, rfl, h2, h3, by omega, by omega, by omega, by omega, fun j u hu => by
      have := h8 (j + 1) u (by simpa using hu)
      rwa [show off + 1 + j = off + (j + 1) by omega]⟩
end

section
variable {P : Program}
theorem run_append_off (w : World) (base : Nat) {t ty e : TypeId} {z : Value} {bytes : Nat} (T : SlTy P t e z 1 bytes) (v : Value) (n : Nat) (xs : List Value) (h : OffRow w base e v n xs)
    (ad : Addr) (c : Nat) (x : Value) (hx : w.cell? ad = some x) (h1 : x.oneCell' = true) (h63 : n + 1 ≤ maxLen) (hbytes : (n + 1) * bytes ≤ 140737488355328) (hbase : base ≤ w.heap.size) :
    ∃ v' w' g, (Builtin.append_ #[t, t] ty #[v, .slice (some ad) 1 c]).run P w = .ok v' w' ∧ OffRow w' base e v' (n + 1) (xs ++ [x]) ∧ base ≤ g ∧ w.grownBy w' (some g) := by
  obtain ⟨i, hi, hz, hsz, hby⟩ := T.inf
  obtain ⟨g, off, cap, cur, rfl, h2, h3, h4, h5, h6, h7, h8⟩ := h
  have hnews : ∀ j u, ([x] : List Value)[j]? = some u → w.cell? (ad.add j) = some u := by
    intro j u hu
    match j, hu with
    | 0, hu =>
      simp at hu
      subst hu
      have : ad.add 0 = ad := by unfold Addr.add; split <;> simp_all
      rw [this]; exact hx
    | j + 1, hu => simp at hu
  by_cases hroom : n + 1 ≤ cap
  · have hin : off + n < cur.size := by omega
    have hr := run_append_room_cells (P := P) w t ty e i T.und hi g off n cap ad 1 c [x] (by rw [hsz]; rfl) hnews (by intro u hu; simp at hu; subst hu; exact h1) hroom (by
      intro j hj
      simp at hj
      subst hj
      rw [hsz, Nat.mul_one, Nat.add_zero, blk_cell h3 (i := off + n) (Array.getElem?_eq_getElem hin)]
      rfl) (by
      intro j hj
      exact blk_free h3 _)
    rw [hsz, Nat.mul_one] at hr
    have hset : w.setCells g (off + n) [x] = w.setCell ⟨g, off + n, none⟩ x := rfl
    rw [hset] at hr
    have hb := blk_set h3 (i := off + n) x
    refine ⟨_, _, g, hr, ⟨g, off, cap, cur.setIfInBounds (off + n) x, rfl, h2, hb, by simp [h4], hroom, h6, by simpa using h7, fun j u hu => ?_⟩, h2, ⟨rfl, rfl, rfl, by simp, fun k hk hn => Below.heap_setCell _ _ _ _ (fun e => hn (by rw [e]))⟩⟩
    by_cases hj : j < n
    · rw [List.getElem?_append_left (by omega)] at hu
      rw [Array.getElem?_setIfInBounds, if_neg (by omega)]
      exact h8 j u hu
    · have e2 : j = n := by have := (List.getElem?_eq_some_iff.1 hu).1; simp at this; omega
      subst e2
      rw [List.getElem?_append_right (by omega), h4] at hu
      simp at hu
      subst hu
      rw [Array.getElem?_setIfInBounds, if_pos rfl, if_pos hin]
  · obtain ⟨v', w', hr, ho, hg⟩ := run_append_arg_grows (P := P) w t ty e i z 1 bytes T.und hi hz hsz hby T.zs (by omega) ⟨g, off, none⟩ n cap xs (by omega) (fun j u hu => by
      rw [Addr.add_lit]
      exact blk_cell h3 (h8 j u hu)) ad 1 c [x] rfl hnews (by omega) h63 hbytes
    exact ⟨v', w', g, hr, (OffRow.of_own (own_down ho hbase) (by omega)), h2, ⟨hg.os, hg.tape, hg.output, hg.size, fun k hk _ => hg.block k hk (by simp)⟩⟩

theorem wpl_append_off {w : World} {ops : Array Oper} {rest : List Oper} {o : Oper} {a : Act} {Q : Exit → Act → World → Prop} (hgd : o.guard = none) {s x : Operand} {t : TypeId}
    (ho : o.op = .call { callee := .builtin .append, args := #[s, x], argTypes := #[t, t] })
    {e : TypeId} {z : Value} {bytes : Nat} (T : SlTy P t e z 1 bytes) (base : Nat)
    {v : Value} {n : Nat} {xs : List Value} (hs : a.eval s = v) (h : OffRow w base e v n xs)
    {ad : Addr} {c : Nat} {u : Value} (hx : a.eval x = .slice (some ad) 1 c) (hu : w.cell? ad = some u)
    (h1 : u.oneCell' = true) (h63 : n + 1 ≤ maxLen) (hbytes : (n + 1) * bytes ≤ 140737488355328) (hbase : base ≤ w.heap.size)
    (hk : ∀ v' w' g, OffRow w' base e v' (n + 1) (xs ++ [u]) → base ≤ g → w.grownBy w' (some g) → wpList P ops Q rest (a.put o.dst v') w') : wpList P ops Q (o :: rest) a w := by
  refine wpList_plain hgd fun J hJ => ?_
  obtain ⟨v', w', g, hr, h2, h3, h4⟩ := run_append_off (P := P) w base (ty := o.type) T v n xs h ad c u hu h1 h63 hbytes hbase
  unfold Oper.wp execOp
  simp only [ho, resolve, invoke, builtin, Sem.run_bind, Sem.run_pure, Result.andThen_ok, List.map_toArray, List.map_cons, List.map_nil, hs, hx, hr]
  exact hJ _ _ (hk v' w' g h2 h3 h4)
end

end Go.Proofs.YtbmimdnpchldlaaGreatDoor

namespace Go.Proofs.YtbmimdnpchldlaaGreatDoor
open Go.RowKit Go.MapKept

/-- What lies at a key: the first entry. -/
def lkp {κ : Type} [DecidableEq κ] (k : κ) : List (κ × Value) → Option Value
  | [] => none
  | p :: l => if k = p.1 then some p.2 else lkp k l

theorem lkp_none {κ : Type} [DecidableEq κ] {k : κ} : ∀ {l : List (κ × Value)}, lkp k l = none ↔ ∀ p ∈ l, p.1 ≠ k
  | [] => by simp [lkp]
  | p :: l => by
    unfold lkp
    by_cases h : k = p.1
    · rw [if_pos h]; simp; intro h2; exact absurd h.symm h2
    · rw [if_neg h, lkp_none]
      simp [Ne.symm h]
theorem lkp_app {κ : Type} [DecidableEq κ] {k : κ} : ∀ {l m : List (κ × Value)}, lkp k (l ++ m) = (lkp k l).or (lkp k m)
  | [], m => by simp [lkp]
  | p :: l, m => by
    simp only [List.cons_append, lkp]
    split
    · rfl
    · exact lkp_app
theorem lkp_some {κ : Type} [DecidableEq κ] {k : κ} {x : Value} : ∀ {l : List (κ × Value)}, lkp k l = some x → (k, x) ∈ l
  | [], h => by simp [lkp] at h
  | p :: l, h => by
    unfold lkp at h
    split at h
    · rename_i e
      simp only [Option.some.injEq] at h
      subst h; subst e; simp
    · exact List.mem_cons_of_mem _ (lkp_some h)

/-- What a program's map with keys of type kt must do with keys that are told by enc. -/
structure KeyLaw (P : Program) (kt : TypeId) {κ : Type} [DecidableEq κ] (enc : κ → Value) : Prop where
  chk : ∀ (w : World) (b : Bool) (k : κ), (Instr.checkKey b 10000 kt (enc k)).run P w = .ok () w
  find : ∀ (w : World) (k : κ) (es : List MapEntry) (l : List (κ × Value)), es.map (fun e => (e.key, e.val)) = l.map (fun p => (enc p.1, p.2)) →
    (lkp k l = none → (Instr.findKey kt (enc k) es).run P w = .ok none w) ∧ ∀ x, lkp k l = some x → ∃ j, (Instr.findKey kt (enc k) es).run P w = .ok (some (j, x)) w

theorem find_now {κ : Type} [DecidableEq κ] {enc : κ → Value} {d : TypeDesc} (hs : ∀ a b, Instr.sameNow d (enc a) (enc b) = some (decide (a = b))) (k : κ) : ∀ (es : List MapEntry) (l : List (κ × Value)) (i : Nat), es.map (fun e => (e.key, e.val)) = l.map (fun p => (enc p.1, p.2)) →
    (lkp k l = none → Instr.findNow d (enc k) es i = some none) ∧ (∀ x, lkp k l = some x → ∃ j, Instr.findNow d (enc k) es i = some (some (j, x)))
  | [], [], i, _ => ⟨fun _ => rfl, fun x h => by simp [lkp] at h⟩
  | [], _ :: _, i, h => by simp at h
  | _ :: _, [], i, h => by simp at h
  | e :: es, (n, v) :: l, i, h => by
    simp only [List.map_cons, List.cons.injEq, Prod.mk.injEq] at h
    obtain ⟨⟨hk, hv⟩, ht⟩ := h
    have ih := find_now hs k es l (i + 1) ht
    unfold Instr.findNow
    rw [hk, hs]
    by_cases hn : k = n
    · subst hn
      simp [lkp, hv]
    · simp only [lkp, hn, decide_false, if_false]
      exact ih

theorem KeyLaw.plain {P : Program} {kt : TypeId} {d : TypeDesc} (hd : P.underlying kt = some d) {κ : Type} [DecidableEq κ] {enc : κ → Value} (hk : ∀ a, IsKey d (enc a)) (hs : ∀ a b, Instr.sameNow d (enc a) (enc b) = some (decide (a = b))) : KeyLaw P kt enc where
  chk w b k := run_checkKey hd (hk k) b 9999
  find w k es l h := by
    have hf := find_now hs k es l 0 h
    refine ⟨fun hn => run_findKey hd (hf.1 hn), fun x hx => ?_⟩
    obtain ⟨j, hj⟩ := hf.2 x hx
    exact ⟨j, run_findKey hd hj⟩

theorem KeyLaw.int {P : Program} {kt : TypeId} (hd : P.underlying kt = some (.int .i64)) : KeyLaw P kt (fun n : Int => Value.int .i64 n) :=
  KeyLaw.plain hd (fun _ => by simp [IsKey]) (fun a b => by
    simp only [Instr.sameNow, if_true, Option.some.injEq]
    rw [Bool.eq_iff_iff, beq_iff_eq, decide_eq_true_eq])

theorem KeyLaw.string {P : Program} {kt : TypeId} (hd : P.underlying kt = some .string) : KeyLaw P kt (fun s : ByteArray => Value.string s) :=
  KeyLaw.plain hd (fun _ => by simp [IsKey]) (fun a b => by
    simp only [Instr.sameNow, Option.some.injEq]
    rw [Bool.eq_iff_iff, bytes_beq, decide_eq_true_eq])

/-- The block b is a map with these entries, in the order in which they were laid. -/
def MapG {κ : Type} (enc : κ → Value) (w : World) (b : Nat) (l : List (κ × Value)) : Prop :=
  ∃ (es : Array MapEntry) (clock : Nat), w.heap[b]? = some (.map es clock) ∧ es.toList.map (fun e => (e.key, e.val)) = l.map (fun p => (enc p.1, p.2))

theorem MapG.new {κ : Type} (enc : κ → Value) (w : World) : MapG enc (w.alloc (.map #[] 0)) w.heap.size [] := ⟨#[], 0, (MapKept.heap_alloc w _).1, rfl⟩
theorem MapG.keep {κ : Type} {enc : κ → Value} {w w' : World} {b : Nat} {l : List (κ × Value)} (h : MapG enc w b l) (hb : w'.heap[b]? = w.heap[b]?) : MapG enc w' b l := by
  obtain ⟨es, clock, h1, h2⟩ := h
  exact ⟨es, clock, hb.trans h1, h2⟩
theorem MapG.lt {κ : Type} {enc : κ → Value} {w : World} {b : Nat} {l : List (κ × Value)} (h : MapG enc w b l) : b < w.heap.size := by
  obtain ⟨es, clock, h1, h2⟩ := h
  exact (Array.getElem?_eq_some_iff.1 h1).1
theorem MapG.ext {κ : Type} {enc : κ → Value} {w w' : World} {b : Nat} {l : List (κ × Value)} (h : MapG enc w b l) (hE : Ext w w') : MapG enc w' b l := h.keep (hE.block b h.lt)
theorem MapG.grown {κ : Type} {enc : κ → Value} {w w' : World} {b : Nat} {l : List (κ × Value)} {row : Option Nat} (h : MapG enc w b l) (hg : w.grownBy w' row) (hn : some b ≠ row) : MapG enc w' b l := h.keep (hg.block b h.lt hn)
theorem MapG.set {κ : Type} {enc : κ → Value} {w : World} {b : Nat} {l : List (κ × Value)} (h : MapG enc w b l) {p : Addr} (hp : p.block ≠ b) (v : Value) : MapG enc (w.setCell p v) b l := h.keep (Below.heap_setCell _ _ _ _ (Ne.symm hp))

section
variable {P : Program} {κ : Type} [DecidableEq κ] {enc : κ → Value} {kt : TypeId} (K : KeyLaw P kt enc) {t e : TypeId} (ht : P.underlying t = some (.map kt e))
include K ht

theorem run_lookup_g {w : World} {b : Nat} {l : List (κ × Value)} (h : MapG enc w b l) (k : κ) (x : Value) (hx : lkp k l = some x) (ok : Bool) :
    (Instr.lookup t (.map (some b)) (enc k) ok).run P w = .ok (if ok then .tuple #[x, .bool true] else x) w := by
  obtain ⟨es, clock, hb, he⟩ := h
  obtain ⟨j, hj⟩ := (K.find w k es.toList l he).2 x hx
  have hc := K.chk w es.isEmpty k
  cases ok <;> simp [Instr.lookup, run_underlying ht, Result.andThen, MapKept.run_getObj_map hb, hc, hj]

theorem run_lookup_gn {w : World} {b : Nat} {l : List (κ × Value)} (h : MapG enc w b l) (k : κ) {z : Value} (hz : (zeroValue e).run P w = .ok z w) (hx : lkp k l = none) (ok : Bool) :
    (Instr.lookup t (.map (some b)) (enc k) ok).run P w = .ok (if ok then .tuple #[z, .bool false] else z) w := by
  obtain ⟨es, clock, hb, he⟩ := h
  have hj := (K.find w k es.toList l he).1 hx
  have hc := K.chk w es.isEmpty k
  cases ok <;> simp [Instr.lookup, run_underlying ht, Result.andThen, MapKept.run_getObj_map hb, hc, hj, hz]

/-- The world with one entry more. -/
theorem run_insert_g {w : World} {b : Nat} {l : List (κ × Value)} (h : MapG enc w b l) (k : κ) (x : Value) (hx : lkp k l = none) :
    ∃ w', (Instr.mapUpdate t (.map (some b)) (enc k) x).run P w = .ok () w' ∧ MapG enc w' b (l ++ [(k, x)]) ∧ w.grownBy w' (some b) ∧ w'.heap.size = w.heap.size := by
  obtain ⟨es, clock, hb, he⟩ := h
  have hj := (K.find w k es.toList l he).1 hx
  have hc := K.chk w false k
  have hlt : b < w.heap.size := (Array.getElem?_eq_some_iff.1 hb).1
  refine ⟨{ w with heap := w.heap.setIfInBounds b (.map (es.push { key := enc k, val := x, born := clock }) (clock + 1)) }, ?_, ?_, ?_, ?_⟩
  · simp [Instr.mapUpdate, run_underlying ht, Result.andThen, MapKept.run_getObj_map hb, hc, hj, MapKept.run_setObj_map _ hb]
  · refine ⟨es.push { key := enc k, val := x, born := clock }, clock + 1, ?_, ?_⟩
    · simp [hlt]
    · simp [he]
  · refine ⟨rfl, rfl, rfl, by simp, fun i hi hn => ?_⟩
    have : b ≠ i := fun e => hn (by rw [e])
    simp [this]
  · simp

theorem wpl_insert_g {w : World} {ops : Array Oper} {rest : List Oper} {o : Oper} {a : Act} {Q : Exit → Act → World → Prop} (hgd : o.guard = none) {m y x : Operand} (ho : o.op = .insert t m y x)
    {b : Nat} {l : List (κ × Value)} (h : MapG enc w b l) {k : κ} (hm : a.eval m = .map (some b)) (hy : a.eval y = enc k) (hl : lkp k l = none)
    (H : ∀ w', MapG enc w' b (l ++ [(k, a.eval x)]) → w.grownBy w' (some b) → w'.heap.size = w.heap.size → wpList P ops Q rest (a.put o.dst undef) w') : wpList P ops Q (o :: rest) a w := by
  refine wpList_plain hgd fun J hJ => ?_
  obtain ⟨w', hr, h1, h2, h3⟩ := run_insert_g (P := P) K ht h k (a.eval x) hl
  unfold Oper.wp execOp
  simp only [ho, Sem.run_bind, Sem.run_pure, Result.andThen_ok, hm, hy, hr]
  exact hJ _ _ (H w' h1 h2 h3)

theorem wpl_update_g {w : World} {ops : Array Oper} {rest : List Oper} {o : Oper} {a : Act} {Q : Exit → Act → World → Prop} (hgd : o.guard = none) {m y x : Operand} (ho : o.op = .mapUpdate t m y x)
    {b : Nat} {l : List (κ × Value)} (h : MapG enc w b l) {k : κ} (hm : a.eval m = .map (some b)) (hy : a.eval y = enc k) (hl : lkp k l = none)
    (H : ∀ w', MapG enc w' b (l ++ [(k, a.eval x)]) → w.grownBy w' (some b) → w'.heap.size = w.heap.size → wpList P ops Q rest (a.put o.dst undef) w') : wpList P ops Q (o :: rest) a w := by
  refine wpList_plain hgd fun J hJ => ?_
  obtain ⟨w', hr, h1, h2, h3⟩ := run_insert_g (P := P) K ht h k (a.eval x) hl
  unfold Oper.wp execOp
  simp only [ho, Sem.run_bind, Sem.run_pure, Result.andThen_ok, hm, hy, hr]
  exact hJ _ _ (H w' h1 h2 h3)

theorem wpl_lookup_g {w : World} {ops : Array Oper} {rest : List Oper} {o : Oper} {a : Act} {Q : Exit → Act → World → Prop} (hgd : o.guard = none) {m y : Operand} {ok : Bool} (ho : o.op = .lookup t m y ok)
    {b : Nat} {l : List (κ × Value)} (h : MapG enc w b l) {k : κ} (hm : a.eval m = .map (some b)) (hy : a.eval y = enc k) {x : Value} (hl : lkp k l = some x)
    (H : wpList P ops Q rest (a.put o.dst (if ok then .tuple #[x, .bool true] else x)) w) : wpList P ops Q (o :: rest) a w := by
  refine wpList_plain hgd fun J hJ => ?_
  have hr := run_lookup_g (P := P) K ht h k x hl ok
  unfold Oper.wp execOp
  simp only [ho, Sem.run_bind, Sem.run_pure, Result.andThen_ok, hm, hy, hr]
  exact hJ _ _ H

theorem wpl_lookup_gn {w : World} {ops : Array Oper} {rest : List Oper} {o : Oper} {a : Act} {Q : Exit → Act → World → Prop} (hgd : o.guard = none) {m y : Operand} {ok : Bool} (ho : o.op = .lookup t m y ok)
    {b : Nat} {l : List (κ × Value)} (h : MapG enc w b l) {k : κ} (hm : a.eval m = .map (some b)) (hy : a.eval y = enc k) {z : Value} (hz : (zeroValue e).run P w = .ok z w) (hl : lkp k l = none)
    (H : wpList P ops Q rest (a.put o.dst (if ok then .tuple #[z, .bool false] else z)) w) : wpList P ops Q (o :: rest) a w := by
  refine wpList_plain hgd fun J hJ => ?_
  have hr := run_lookup_gn (P := P) K ht h k hz hl ok
  unfold Oper.wp execOp
  simp only [ho, Sem.run_bind, Sem.run_pure, Result.andThen_ok, hm, hy, hr]
  exact hJ _ _ H
end

end Go.Proofs.YtbmimdnpchldlaaGreatDoor

namespace Go.Proofs.YtbmimdnpchldlaaGreatDoor
open Go.RowKit

def encN (n : Int) : Value := .int .i64 n
theorem Tryz.keyN : KeyLaw Tryz.prog 3 encN := KeyLaw.int Tryz.underlying3
theorem Tryz.zeroN (w : World) : (zeroValue 3).run Tryz.prog w = .ok (.int .i64 0) w := by kernel_rfl
theorem Tryz.slIntsW : SlTy Tryz.prog 27 3 (.int .i64 0) 1 8 := SlTy.mk' Tryz.underlying27 (by kernel_rfl) (by rfl) (by omega)

def entB (Q : List Nat) (par : List Int) : List (Int × Value) := (Q.zip par).map fun p => ((p.1 : Int), Value.int .i64 p.2)
theorem entB_snoc {Q : List Nat} {par : List Int} (h : par.length = Q.length) (k : Nat) (p : Int) : entB (Q ++ [k]) (par ++ [p]) = entB Q par ++ [((k : Int), .int .i64 p)] := by
  unfold entB
  rw [List.zip_append h.symm]
  simp
theorem entB_none {Q : List Nat} {par : List Int} {k : Nat} (h : k ∉ Q) : lkp (k : Int) (entB Q par) = none := by
  rw [lkp_none]
  intro p hp
  obtain ⟨⟨a, b⟩, hq, rfl⟩ := List.mem_map.1 hp
  have := (List.of_mem_zip hq).1
  intro e
  have e2 : a = k := by simp only at e; omega
  exact h (e2 ▸ this)
theorem entB_at : ∀ {Q : List Nat} {par : List Int} {j x : Nat} {p : Int}, Q.Nodup → Q[j]? = some x → par[j]? = some p → lkp (x : Int) (entB Q par) = some (.int .i64 p)
  | [], _, j, _, _, _, h, _ => by simp at h
  | _ :: _, [], j, _, _, _, _, h => by simp at h
  | q :: Q, p :: par, 0, x, p', hn, h, g => by
    simp at h g
    subst h; subst g
    simp [entB, lkp]
  | q :: Q, p :: par, j + 1, x, p', hn, h, g => by
    have hn2 := List.nodup_cons.1 hn
    have hx : Q[j]? = some x := by simpa using h
    have hne : ¬ (x : Int) = (q : Int) := by
      intro e
      have e2 : x = q := by omega
      exact hn2.1 (e2 ▸ List.mem_of_getElem? hx)
    have ih := entB_at hn2.2 hx (by simpa using g : par[j]? = some p')
    have e : entB (q :: Q) (p :: par) = ((q : Int), .int .i64 p) :: entB Q par := rfl
    rw [e]
    unfold lkp
    rw [if_neg hne]
    exact ih
theorem entB_root (F : List Nat) (j : Nat) (hj : j < F.length) : entB (F.take (j + 1)) (List.replicate (j + 1) (-1)) = entB (F.take j) (List.replicate j (-1)) ++ [(((F[j] : Nat) : Int), .int .i64 (-1))] := by
  have e : F.take (j + 1) = F.take j ++ [F[j]] := List.take_succ_eq_append_getElem hj
  have e2 : List.replicate (j + 1) (-1 : Int) = List.replicate j (-1) ++ [-1] := by rw [List.replicate_succ']
  rw [e, e2, entB_snoc (by simp; omega)]

theorem nodup_nat : ∀ (n : Nat) {l : List Nat}, l.Nodup → (∀ x ∈ l, x < n) → l.length ≤ n
  | 0, l, _, h => by
    cases l with
    | nil => simp
    | cons x r => have := h x (by simp); omega
  | n + 1, l, hn, h => by
    by_cases hm : n ∈ l
    · have h1 := nodup_nat n (l := l.erase n) (hn.erase _) fun x hx => by
        have h2 := hn.mem_erase_iff.1 hx
        have h3 := h x h2.2
        have h4 := h2.1
        omega
      rw [List.length_erase_of_mem hm] at h1
      omega
    · have h1 := nodup_nat n hn fun x hx => by
        have h3 := h x hx
        have : x ≠ n := fun e => hm (e ▸ hx)
        omega
      omega

/-- Spots as values. -/
def natV (l : List Nat) : List Value := l.map fun x : Nat => Value.int .i64 (x : Int)
theorem natV_map (l : List Nat) : natV l = (l.map fun x : Nat => (x : Int)).map (.int .i64) := by simp [natV]

end Go.Proofs.YtbmimdnpchldlaaGreatDoor

namespace Go.Proofs.YtbmimdnpchldlaaGreatDoor
open Go.RowKit

theorem row_cells {α : Type} {f : α → Value} {w : World} {a : Option Addr} {n c : Nat} {l : List α} (h : Row w 1 a n c (l.map f)) : ∃ b off, (0 < l.length → a = some ⟨b, off, none⟩) ∧ ∀ (i : Nat) (hi : i < l.length), w.cell? ⟨b, off + i, none⟩ = some (f l[i]) := by
  obtain ⟨b, off, _, h2, h3⟩ := h.lie
  exact ⟨b, off, fun hl => h2 (by simpa using hl), fun i hi => h3 i _ (by rw [List.getElem?_map, List.getElem?_eq_getElem hi]; rfl)⟩

end Go.Proofs.YtbmimdnpchldlaaGreatDoor

namespace Go.Proofs.YtbmimdnpchldlaaGreatDoor
open Go.RowKit

theorem natV_one (l : List Nat) : ∀ u ∈ natV l, u.oneCell' = true := by
  intro u hu
  obtain ⟨x, _, rfl⟩ := List.mem_map.1 hu
  rfl
theorem natV_len (l : List Nat) : (natV l).length = l.length := by simp [natV]

/-- What way answers. -/
def WayR (n : Nat) (next : List (List Int)) (F : List Nat) (ins wan : Nat → Bool) (w : World) (e : Ending) (w' : World) : Prop :=
  ∃ (l : List Nat) (b : Nat) (a : Option Addr) (c : Nat), e = .returned (.slice a (l.length + 1) c) ∧ WayTo next F ins wan l b ∧ l.length ≤ n ∧ w'.ownsRow w.heap.size 3 1 (.slice a (l.length + 1) c) (l.length + 1) (natV (l ++ [b])) ∧ Ext w w'

set_option maxRecDepth 100000 in
set_option maxHeartbeats 16000000 in
theorem way_any (sp nx st : Value) (init : Nat) (M : Nat) (S : List Sp2) (next : List (List Int)) (sets : List Int) (w : World) (hS : Spots w sp S) (hN : Lists w nx next) (hT : Ints w st sets) (hk : GOk S.length next sets init M)
    (vf : Value) (F : List Nat) (hF : Reads w 1 vf F.length (natV F)) (hFn : F.Nodup) (hFl : ∀ x ∈ F, x < S.length) (fi fw : FuncId) (ci cw : Array Value) (ins wan : Nat → Bool)
    (hI : ∀ (i : Nat) wx, i < S.length → Ext w wx → Calls Tryz.prog fi (#[.int .i64 (i : Int)] ++ ci) wx fun e w' => e = .returned (.bool (ins i)) ∧ Ext wx w')
    (hW : ∀ (i : Nat) wx, i < S.length → Ext w wx → Calls Tryz.prog fw (#[.int .i64 (i : Int)] ++ cw) wx fun e w' => e = .returned (.bool (wan i)) ∧ Ext wx w')
    (hci : ∀ ar wx, (callFunc fi ar).run Tryz.prog wx = .ok (.enter fi ar) wx) (hcw : ∀ ar wx, (callFunc fw ar).run Tryz.prog wx = .ok (.enter fw ar) wx) (hex : ∃ l b, WayTo next F ins wan l b) :
    Calls Tryz.prog 64 #[.agg #[sp, .int .i64 (init : Int), nx, st, .int .i64 (M : Int)], vf, .func (.func fi) #[] ci, .func (.func fw) #[] cw] w (WayR S.length next F ins wan w) := by
  have HLI := Lib.hid hN
  have HFR := Lib.hid hF
  have HNX := Lib.hid hk.nx
  have HIN := Lib.hid hk.ins
  have h20 := hk.max
  have HFN := Lib.hid hFn
  have HFL := Lib.hid hFl
  have HI := Lib.hid hI
  have HW := Lib.hid hW
  have HEX := Lib.hid hex
  have hF0 : 0 < F.length := by
    obtain ⟨l, b, a, ha, _⟩ := hex
    exact List.length_pos_of_mem ha
  have hFm : F.length ≤ S.length := nodup_nat _ hFn hFl
  obtain ⟨asp, csp, rfl, _⟩ := hS
  obtain ⟨ax, cx, rfl⟩ : ∃ a c, nx = .slice a next.length c := by
    obtain ⟨vs, _, a, c, e, _⟩ := hN
    exact ⟨a, c, e⟩
  obtain ⟨at', ct, rfl, _⟩ := hT
  obtain ⟨af, cf, rfl, hrf⟩ := hF
  have HFRW := Lib.hid hrf
  generalize S.length = n at *
  clear hN hk hFn hFl hI hW hex hrf
  have hb := blk_new w (Obj.cells #[.slice asp n csp, .int .i64 (init : Int), .slice ax next.length cx, .slice at' sets.length ct, .int .i64 (M : Int)] 133)
  have hx := ext_al (Ext.refl w) (Obj.cells #[.slice asp n csp, .int .i64 (init : Int), .slice ax next.length cx, .slice at' sets.length ct, .int .i64 (M : Int)] 133)
  have HB := Lib.hid hb
  have HX := Lib.hid hx
  have hmm := @run_makeMap Tryz.prog
  clear hb hx
  go_enter Tryz.func64, Tryz.ntmps64
  go_upto_region 2 with fail
  generalize hW1 : w.alloc (Obj.cells #[.slice asp n csp, .int .i64 (init : Int), .slice ax next.length cx, .slice at' sets.length ct, .int .i64 (M : Int)] 133) = W1 at *
  have hW1s : W1.heap.size = w.heap.size + 1 := by rw [← hW1]; simp
  have HM0 := Lib.hid (MapG.new encN W1)
  have hx2 := ext_al (Ext.refl W1) (Obj.map #[] 0)
  have hfr := HFRW.out.ext (HX.out.trans hx2)
  have hs2 : (W1.alloc (Obj.map #[] 0)).heap.size = w.heap.size + 2 := by simp [hW1s]
  obtain ⟨K, hK⟩ : ∃ K, w.heap.size + 1 = K := ⟨_, rfl⟩
  rw [hW1s, hK] at HM0
  have HKW := Lib.hid (hW1s.trans hK)
  have HKK := Lib.hid hK
  have HX2 := Lib.hid hx2
  have HFR2 := Lib.hid hfr
  have HS2 := Lib.hid (show (W1.alloc (Obj.map #[] 0)).heap.size = K + 1 by omega)
  clear hW1 hW1s hx2 hfr hs2
  rw [hK]
  clear hK
  generalize W1.alloc (Obj.map #[] 0) = W2 at *
  go_wp2_with (at_builtin; go_must (refine wpl_append rfl rfl Tryz.slIntsW (K + 1) rfl (World.ownsRow_nil _ _ _ _) rfl HFR2.out (natV_one F) (by unfold maxLen; omega) (by omega) (by have := HS2.out; omega) ?_))
  intro v3 w3 hown3 hg3 hb3 _
  have ho3 := OffRow.of_own hown3 hF0
  obtain ⟨a3, c3, rfl, _⟩ := hown3.row
  have HO3 := Lib.hid ho3
  have HE3 := Lib.hid (show Ext W1 w3 from Below.grown HX2.out hg3 HX2.out.size (fun b hb => by cases hb))
  have HM3 := Lib.hid (HM0.out.grown hg3 (by intro e; cases e))
  clear hown3 hg3 hb3 ho3 HFR2 HM0
  go_wp2_with fail
  go_loopg [24] F.length (fun g x wr => ∃ j : Nat, g + j = F.length ∧ x = .int .i64 (j : Int) ∧ OffRow wr (K + 1) 3 (.slice a3 F.length c3) F.length (natV F) ∧ MapG encN wr K (entB (F.take j) (List.replicate j (-1))) ∧ Ext W1 wr ∧ ∀ q ∈ F.take j, wan q = false)
  case atStart => exact ⟨0, by omega, by go_num, HO3.out, HM3.out, HE3.out, by simp⟩
  case round =>
    obtain ⟨j, hgj, rfl, hO, hM, hE, hw⟩ := hrel
    have HGJ := Lib.hid hgj
    have HOO := Lib.hid hO
    have HMM := Lib.hid hM
    have HEE := Lib.hid hE
    have HWW := Lib.hid hw
    clear hgj hO hM hE hw
    by_cases hj : j < F.length
    · have hrf := HFRW.out.ext (HX.out.trans HEE.out)
      obtain ⟨bF, oF, i1, i2⟩ := row_cells (f := fun x : Nat => Value.int .i64 (x : Int)) hrf
      obtain rfl := i1 hF0
      have cj := i2 j hj
      have hcap := hrf.le
      have hcm := hrf.max
      have HJL := Lib.hid (HFL.out F[j] (by simp))
      have HNI := Lib.hid (show F[j] ∉ F.take j from fun hm => by
        obtain ⟨i, hi, e⟩ := List.mem_iff_getElem.1 hm
        rw [List.length_take] at hi
        rw [List.getElem_take] at e
        have h := HFN.out
        rw [List.Nodup, List.pairwise_iff_getElem] at h
        exact h i j (by omega) hj (by omega) e)
      have HLK := Lib.hid (entB_none (par := List.replicate j (-1)) HNI.out)
      have HER := Lib.hid (entB_root F j hj)
      have HTK := Lib.hid (show F.take (j + 1) = F.take j ++ [F[j]] from List.take_succ_eq_append_getElem hj)
      have HMEM := Lib.hid (show F[j] ∈ F by simp)
      generalize F[j] = q at *
      have hjI : (j : Int) < (F.length : Int) := by omega
      have hj0 : (0 : Int) ≤ (j : Int) := by omega
      unfold maxLen at hcm
      clear hrf i1 i2
      go_wp2_with (at_mapUpdate; go_must (refine wpl_update_g Tryz.keyN Tryz.underlying171 rfl rfl HMM.out rfl rfl HLK.out ?_))
      intro w4 hm4 hg4 hs4
      rw [← HER.out] at hm4
      have HM4 := Lib.hid hm4
      have HO4 := Lib.hid (HOO.out.grown hg4 (fun b hb => by injection hb with hb; omega))
      have HE4 := Lib.hid (show Ext W1 w4 from Below.grown HEE.out hg4 HEE.out.size (fun b hb => by injection hb with hb; have := HKW.out; omega))
      clear hm4 hg4 hs4 cj
      go_wp2_with fail
      refine (HW.out q _ HJL.out (HX.out.trans HE4.out)).mono ?_
      rintro e w5 ⟨rfl, hE5⟩
      have HM5 := Lib.hid (HM4.out.ext hE5)
      have HO5 := Lib.hid (HO4.out.ext hE5)
      have HE5 := Lib.hid (HE4.out.trans hE5)
      clear hE5
      by_cases hq : wan q = true
      · rw [hq]
        have hx6 := ext_al (Ext.refl w5) (Obj.cells #[.int .i64 (q : Int)] 3)
        have HO6 := Lib.hid (World.ownsRow_lit w5 #[.int .i64 (q : Int)] 1 (base := w.heap.size) (e := 3) (size := 1) (by have := (HX.out.trans HE5.out).size; exact this) (by unfold maxLen; omega) rfl)
        have HX6 := Lib.hid ((HX.out.trans HE5.out).trans hx6)
        clear hx6
        go_wp2
        go_ret
        exact ⟨[], q, _, _, rfl, ⟨q, HMEM.out, .nil _, hq, by simp⟩, by simp, by simpa [natV] using HO6.out, HX6.out⟩
      · have hq2 : wan q = false := by simpa using hq
        rw [hq2]
        have HWQ := Lib.hid (show ∀ x ∈ F.take (j + 1), wan x = false from fun x hx => by
          rw [HTK.out] at hx
          rcases List.mem_append.1 hx with hx | hx
          · exact HWW.out x hx
          · simp at hx; subst hx; exact hq2)
        clear hq hq2
        go_wp2_with fail
        go_roundg (gk - 1)
        case measure => have := HGJ.out; omega
        case rel => exact ⟨j + 1, by have := HGJ.out; omega, by go_num, HO5.out, HM5.out, HE5.out, HWQ.out⟩
    · obtain rfl : j = F.length := by have := HGJ.out; omega
      have hjI : ¬ (F.length : Int) < (F.length : Int) := by omega
      have HB0 := Lib.hid (BInv.start (next := next) (ins := ins) HFN.out (by have := HWW.out; rw [List.take_length] at this; exact this))
      have HM6 := Lib.hid (show MapG encN wr K (entB F (List.replicate F.length (-1))) from by have := HMM.out; rw [List.take_length] at this; exact this)
      clear HWW HMM HO3 HM3 HE3
      go_wp2_with fail
      go_loopg [10] (n + 1) (fun g x wq => ∃ (i : Nat) (Q : List Nat) (par : List Int), g + i = n + 1 ∧ OffRow wq (K + 1) 3 x (Q.length - i) (natV (Q.drop i)) ∧ MapG encN wq K (entB Q par) ∧ Ext W1 wq ∧ BInv next ins wan F Q par i 0 ∧ (∀ q ∈ Q, q < n))
      case atStart => exact ⟨0, F, _, by omega, by simpa using HOO.out, HM6.out, HEE.out, HB0.out, HFL.out⟩
      case round =>
        obtain ⟨i, Q, par, hgi, hO, hM, hE, hB, hQn⟩ := hrel
        have HGI := Lib.hid hgi
        have HOI := Lib.hid hO
        have HMI := Lib.hid hM
        have HEI := Lib.hid hE
        have HBI := Lib.hid hB
        have HQN := Lib.hid hQn
        have hQl : Q.length ≤ n := nodup_nat n hB.nd hQn
        have hil := hB.il
        clear hgi hM hE hB hQn HM6 HB0 HOO HEE
        obtain ⟨gq, oq, cq, rfl, hgK, hcq, hcm, hgl⟩ := hO.form
        by_cases hi : i < Q.length
        · have hqi := List.getElem?_eq_getElem hi
          have hdr : Q.drop i = Q[i] :: Q.drop (i + 1) := List.drop_eq_getElem_cons hi
          obtain ⟨q, hq⟩ : ∃ q, Q[i] = q := ⟨_, rfl⟩
          rw [hq] at hqi hdr
          have hqn := HQN.out q (List.mem_of_getElem? hqi)
          obtain ⟨l, hl⟩ : ∃ l, next[q]? = some l := ⟨_, List.getElem?_eq_getElem (by have := HNX.out; omega)⟩
          have hO2 := hO
          rw [hdr] at hO2
          obtain ⟨m, hm⟩ : ∃ m, Q.length - i = m + 1 := ⟨Q.length - i - 1, by omega⟩
          rw [hm] at hO2 hcq ⊢
          have c0 := hO2.cell (j := 0) (u := .int .i64 (q : Int)) (by simp [natV])
          rw [Nat.add_zero] at c0
          have HRT := Lib.hid (show OffRow wr (K + 1) 3 (.slice (if cq = 1 then some ⟨gq, oq, none⟩ else some ⟨gq, oq + 1, none⟩) m (cq - 1)) m (natV (Q.drop (i + 1))) from OffRow.rest (by simpa [natV] using hO2))
          have hbt := blk_ext HB.out HEI.out
          have g2 := blk_cell hbt (i := 2) rfl
          obtain ⟨-, hcl, hclm, bL, oL, l1, l2⟩ := HLI.out.cells
          obtain rfl := l1 (by have := HNX.out; omega)
          have hqN : q < next.length := by have := HNX.out; omega
          obtain ⟨al, cl, cL, hil2⟩ := l2 q hqN
          replace cL := (World.cell?_of_block ((HX.out.trans HEI.out).block bL (World.block_lt_of_cell? _ _ cL))).trans cL
          have hlge : next[q]'hqN = l := by
            rw [List.getElem?_eq_getElem hqN] at hl
            exact Option.some.inj hl
          rw [hlge] at cL hil2
          have HIL := Lib.hid hil2
          have HLQ := Lib.hid hl
          have HQI := Lib.hid hqi
          have HMQ := Lib.hid hm
          have HLN := Lib.hid (show ∀ x ∈ l, 0 ≤ x ∧ x < (n : Int) from fun x hx => HIN.out l (List.mem_of_getElem? hl) x hx)
          have hqI : (q : Int) < (next.length : Int) := by omega
          have hq0 : (0 : Int) ≤ (q : Int) := by omega
          have hm0 : (0 : Int) < ((m : Int) + 1) := by omega
          have hll : l.length ≤ 9223372036854775807 := by
            obtain ⟨_, _, e, hr⟩ := hil2
            simp only [Value.slice.injEq] at e
            obtain ⟨-, -, rfl⟩ := e
            have h1 := hr.le
            have h2 := hr.max
            unfold maxLen at h2
            omega
          unfold maxLen at hcm hclm
          clear hqi hdr hq hl hO hO2 hm hbt l2 hlge hil2
          go_upto_region 12 with fail
          go_cut [10] (fun s10 wx => wx = wr ∧ OffRow wr (K + 1) 3 s10 m (natV (Q.drop (i + 1))))
          case first =>
            by_cases hc1 : cq = 1
            · have hm1 : m = 0 := by omega
              subst hc1
              subst hm1
              go_wp2_with fail
              go_meet
              exact ⟨rfl, by simpa using HRT.out⟩
            · have hc2 : ¬ cq - 1 = 0 := by omega
              go_wp2_with fail
              go_meet
              exact ⟨rfl, by have h := HRT.out; rw [if_neg hc1] at h; exact h⟩
          case rest =>
          obtain ⟨rfl, hO2⟩ := hcut
          have HO2 := Lib.hid hO2
          clear hO2 HRT c0 HOI
          go_wp2_with fail
          obtain ⟨wo, rfl⟩ : ∃ wo : World, wo = wr := ⟨_, rfl⟩
          obtain ⟨G0, rfl⟩ : ∃ G0 : Nat, G0 = gk := ⟨_, rfl⟩
          go_loopg [51, 10] l.length (fun g x y wq => ∃ (c : Nat) (Q' : List Nat) (par' : List Int), g + c = l.length ∧ x = .int .i64 (c : Int) ∧ OffRow wq (K + 1) 3 y (Q'.length - (i + 1)) (natV (Q'.drop (i + 1))) ∧ MapG encN wq K (entB Q' par') ∧ Ext W1 wq ∧ BInv next ins wan F Q' par' i c ∧ (∀ q ∈ Q', q < n) ∧ Q'[i]? = some q)
          case atStart => exact ⟨0, Q, par, by omega, by go_num, by rw [show Q.length - (i + 1) = m by have := HMQ.out; omega]; exact HO2.out, HMI.out, HEI.out, HBI.out, HQN.out, HQI.out⟩
          case round =>
            clear HMI HEI HBI HQN HQI HMQ HO2 hQl hil hi hcq hm0 cL g2
            obtain ⟨c, Q', par', hgc, rfl, hO, hM, hE, hB, hQn, hqi⟩ := hrel
            have HGC := Lib.hid hgc
            have HOI := Lib.hid hO
            have HMI := Lib.hid hM
            have HEI := Lib.hid hE
            have HBI := Lib.hid hB
            have HQN := Lib.hid hQn
            have HQI := Lib.hid hqi
            have hQl : Q'.length ≤ n := nodup_nat n hB.nd hQn
            have hiQ := (List.getElem?_eq_some_iff.1 hqi).1
            by_cases hc : c < l.length
            · have hil3 := HIL.out.ext (HX.out.trans hE)
              obtain ⟨_, _, e1, hr⟩ := id hil3
              simp only [Value.slice.injEq] at e1
              obtain ⟨rfl, -, rfl⟩ := e1
              obtain ⟨bI, oI, i1, i2⟩ := ints_cells hr
              obtain rfl := i1 (by omega)
              have ci := i2 c hc
              have hlc := List.getElem?_eq_getElem hc
              have hkb := HLN.out l[c] (by simp)
              obtain ⟨k, hk⟩ : ∃ k : Nat, l[c] = (k : Int) := ⟨l[c].toNat, by omega⟩
              rw [hk] at ci hlc hkb
              have hkn : k < n := by omega
              have HLC := Lib.hid hlc
              have hcI : (c : Int) < (l.length : Int) := by omega
              have hc0 : (0 : Int) ≤ (c : Int) := by omega
              obtain ⟨gy, oy, cy, rfl, hgy, hcy, hcym, hgyl⟩ := hO.form
              clear hgc hM hE hB hQn hqi hil3 hr i1 i2 hlc hkb hk hO
              by_cases hkQ : k ∈ Q'
              · obtain ⟨jk, hjk, ejk⟩ := List.mem_iff_getElem.1 hkQ
                obtain ⟨pk', hpk⟩ : ∃ p, par'[jk]? = some p := ⟨_, List.getElem?_eq_getElem (by rw [HBI.out.pl]; exact hjk)⟩
                have HLK := Lib.hid (entB_at HBI.out.nd (show Q'[jk]? = some k by rw [List.getElem?_eq_getElem hjk, ejk]) hpk)
                have HSK := Lib.hid (HBI.out.skip HQI.out HLQ.out HLC.out (fun _ => hkQ))
                clear hkQ hjk ejk hpk
                go_wp2_with (refine wpl_lookup_g Tryz.keyN Tryz.underlying171 rfl rfl HMI.out rfl rfl HLK.out ?_)
                go_roundg (gk - 1)
                case measure => have := HGC.out; omega
                case rel => exact ⟨c + 1, Q', par', by have := HGC.out; omega, by go_num, HOI.out, HMI.out, HEI.out, HSK.out, HQN.out, HQI.out⟩
              · have HLK := Lib.hid (entB_none (par := par') hkQ)
                have HKN := Lib.hid hkQ
                have HQK := Lib.hid (show ∀ x ∈ Q' ++ [k], x < n from fun x hx => by
                  rcases List.mem_append.1 hx with hx | hx
                  · exact HQN.out x hx
                  · simp at hx; subst hx; exact hkn)
                have HQ2 := Lib.hid (show (Q' ++ [k])[i]? = some q by rw [List.getElem?_append_left hiQ]; exact HQI.out)
                have HDR := Lib.hid (show natV ((Q' ++ [k]).drop (i + 1)) = natV (Q'.drop (i + 1)) ++ [.int .i64 (k : Int)] by
                  rw [List.drop_append_of_le_length (by omega)]
                  simp [natV])
                have HEN := Lib.hid (entB_snoc HBI.out.pl k (q : Int))
                clear hkQ
                go_wp2_with (refine wpl_lookup_gn Tryz.keyN Tryz.underlying171 rfl rfl HMI.out rfl rfl (Tryz.zeroN _) HLK.out ?_)
                refine (HI.out k _ hkn (HX.out.trans HEI.out)).mono ?_
                rintro e w5 ⟨rfl, hE5⟩
                have HM5 := Lib.hid (HMI.out.ext hE5)
                have HO5 := Lib.hid (HOI.out.ext hE5)
                have HE5 := Lib.hid (HEI.out.trans hE5)
                clear hE5 ci HMI HOI
                by_cases hik : ins k = true
                · rw [hik]
                  have HIK := Lib.hid hik
                  clear hik
                  go_wp2_with (at_mapUpdate; go_must (refine wpl_update_g Tryz.keyN Tryz.underlying171 rfl rfl HM5.out rfl rfl HLK.out ?_))
                  intro w6 hm6 hg6 hs6
                  rw [← HEN.out] at hm6
                  have ho6 := HO5.out.grown hg6 (fun b hb => by injection hb with hb; omega)
                  have HE6 := Lib.hid (show Ext W1 w6 from Below.grown HE5.out hg6 HE5.out.size (fun b hb => by injection hb with hb; have := HKW.out; omega))
                  have hx6 := ext_al (Ext.refl w6) (Obj.cells #[.int .i64 (k : Int)] 3)
                  have c6 := blk_cell (blk_new w6 (Obj.cells #[.int .i64 (k : Int)] 3)) (i := 0) rfl
                  have HM6 := Lib.hid (hm6.ext hx6)
                  have HO6 := Lib.hid (ho6.ext hx6)
                  have hK6 : K + 1 ≤ w6.heap.size := by
                    have h1 := hm6.lt
                    omega
                  clear hm6 hg6 hs6 ho6 HM5 HO5
                  go_wp2_with (at_builtin; go_must (refine wpl_append_off rfl rfl Tryz.slIntsW (K + 1) rfl HO6.out rfl c6 rfl (by unfold maxLen; omega) (by omega) (by simp; omega) ?_))
                  intro v7 w7 g7 ho7 hg7 hgr7
                  rw [← HDR.out] at ho7
                  have HO7 := Lib.hid (show OffRow w7 (K + 1) 3 v7 ((Q' ++ [k]).length - (i + 1)) (natV ((Q' ++ [k]).drop (i + 1))) by
                    rw [show (Q' ++ [k]).length - (i + 1) = Q'.length - (i + 1) + 1 by simp; omega]
                    exact ho7)
                  have HM7 := Lib.hid (HM6.out.grown hgr7 (fun e => by injection e with e; omega))
                  have HE7 := Lib.hid (show Ext W1 w7 from Below.grown (HE6.out.trans hx6) hgr7 (HE6.out.trans hx6).size (fun b hb => by injection hb with hb; have := HKW.out; omega))
                  clear ho7 hg7 hgr7 hx6 c6 hK6 HM6 HO6 HE6
                  go_wp2_with fail
                  refine (HW.out k _ hkn (HX.out.trans HE7.out)).mono ?_
                  rintro e w8 ⟨rfl, hE8⟩
                  have HM8 := Lib.hid (HM7.out.ext hE8)
                  have HO8 := Lib.hid (HO7.out.ext hE8)
                  have HE8 := Lib.hid (HE7.out.trans hE8)
                  clear hE8 HM7 HO7 HE7
                  by_cases hwk : wan k = true
                  · rw [hwk]
                    have HWK := Lib.hid hwk
                    clear hwk
                    go_wp2_with fail
                    have HDI := Lib.hid (show ∀ (j x : Nat), j ≤ Q'.length → (Q' ++ [k])[j]? = some x → ((j < F.length ∧ (par' ++ [(q : Int)])[j]? = some (-1) ∧ x ∈ F) ∨ ∃ p y, p < j ∧ (Q' ++ [k])[p]? = some y ∧ (par' ++ [(q : Int)])[j]? = some (y : Int) ∧ Edge next y x ∧ ins x = true) from fun j x hj hx => by
                      have hfl := HBI.out.fl
                      have hpl := HBI.out.pl
                      by_cases hjF : j < F.length
                      · refine .inl ⟨hjF, by rw [List.getElem?_append_left (by omega)]; exact HBI.out.root j hjF, ?_⟩
                        rw [List.getElem?_append_left (by omega)] at hx
                        rw [← HBI.out.pre]
                        exact List.mem_of_getElem? (by rw [List.getElem?_take, if_pos hjF]; exact hx)
                      · right
                        by_cases hjQ : j < Q'.length
                        · obtain ⟨p, y, x', a1, a2, a3, a4, a5, a6⟩ := HBI.out.tree j (by omega) hjQ
                          rw [List.getElem?_append_left hjQ] at hx
                          obtain rfl := Option.some.inj (a3.symm.trans hx)
                          exact ⟨p, y, a1, by rw [List.getElem?_append_left (by omega)]; exact a2, by rw [List.getElem?_append_left (by omega)]; exact a4, a5, a6⟩
                        · have e : j = Q'.length := by omega
                          subst e
                          rw [List.getElem?_append_right (Nat.le_refl _), Nat.sub_self] at hx
                          simp at hx
                          subst hx
                          exact ⟨i, q, hiQ, HQ2.out, by rw [← hpl]; simp, ⟨l, HLQ.out, List.mem_of_getElem? HLC.out⟩, HIK.out⟩)
                    have HND := Lib.hid (show (Q' ++ [k]).Nodup from by
                      rw [List.nodup_append]
                      refine ⟨HBI.out.nd, by simp, ?_⟩
                      intro a ha b hb e
                      simp at hb
                      subst hb; subst e
                      exact HKN.out ha)
                    have hw8 := (HX.out.trans HE8.out).size
                    have HW8 := Lib.hid hw8
                    clear hw8 HO8
                    go_loopg [15, 18] (Q'.length + 1) (fun g x y wq => ∃ (l4 : List Nat) (al4 : Option Addr) (cl4 : Nat), y = .slice al4 l4.length cl4 ∧ wq.ownsRow w.heap.size 3 1 (.slice al4 l4.length cl4) l4.length (natV l4) ∧ MapG encN wq K (entB (Q' ++ [k]) (par' ++ [(q : Int)])) ∧ Ext W1 wq ∧ l4.length + g ≤ Q'.length + 1 ∧
                      ((∃ (j xk : Nat), g = j + 1 ∧ j ≤ Q'.length ∧ x = .int .i64 (xk : Int) ∧ (Q' ++ [k])[j]? = some xk ∧ ((l4 = [] ∧ wan xk = true) ∨ Back next ins wan F xk l4)) ∨ (g = 0 ∧ x = .int .i64 (-1) ∧ ∃ r b, l4 = r ++ [b] ∧ WayTo next F ins wan r b)))
                    case atStart => exact ⟨[], none, 0, rfl, World.ownsRow_nil _ _ _ _, HM8.out, HE8.out, by simp, .inl ⟨Q'.length, k, rfl, Nat.le_refl _, rfl, by simp, .inl ⟨rfl, HWK.out⟩⟩⟩
                    case round =>
                      obtain ⟨l4, al4, cl4, rfl, hO, hM, hE, hg4, hcase⟩ := hrel
                      have HO4 := Lib.hid hO
                      have HM4 := Lib.hid hM
                      have HE4 := Lib.hid hE
                      rcases hcase with ⟨j, xk, hgj, hjQ, rfl, hxk, hst⟩ | ⟨hg0, rfl, r, b, hrb, hwt⟩
                      · have HGJ := Lib.hid hgj
                        have HST := Lib.hid hst
                        have HDJ := Lib.hid (HDI.out j xk hjQ hxk)
                        have HXK := Lib.hid hxk
                        have h4l : l4.length + j ≤ Q'.length := by omega
                        have hx0 : (0 : Int) ≤ (xk : Int) := by omega
                        have hx5 := ext_al (Ext.refl wr) (Obj.cells #[.int .i64 (xk : Int)] 3)
                        have HX5 := Lib.hid hx5
                        have HN5 := Lib.hid (World.ownsRow_lit wr #[.int .i64 (xk : Int)] 1 (base := w.heap.size) (e := 3) (size := 1) (by have := (HX.out.trans hE).size; exact this) (by unfold maxLen; omega) rfl)
                        obtain ⟨_, _, e4, hr4⟩ := id hO.row
                        simp only [Value.slice.injEq] at e4
                        obtain ⟨rfl, -, rfl⟩ := e4
                        have HR5 := Lib.hid (hr4.ext hx5)
                        have hwsz := (HX.out.trans hE).size
                        clear hgj hst hxk hO hM hE hx5 hr4
                        go_wp2_with (at_builtin; go_must (refine wpl_append rfl rfl Tryz.slIntsW w.heap.size rfl HN5.out rfl HR5.out (natV_one l4) (by unfold maxLen; omega) (by omega) (by simp; omega) ?_))
                        intro v6 w6 hown6 hg6 hb6 _
                        obtain ⟨a6, c6, rfl, _⟩ := id hown6.row
                        have HM6 := Lib.hid ((HM4.out.ext HX5.out).grown hg6 (by intro e; simp [Value.ownBlock] at e; have := HM4.out.lt; omega))
                        have HE6 := Lib.hid (show Ext W1 w6 from Below.grown (HE4.out.trans HX5.out) hg6 (HE4.out.trans HX5.out).size (fun b hb => by simp [Value.ownBlock] at hb; subst hb; exact HE4.out.size))
                        have HO6 := Lib.hid (show w6.ownsRow w.heap.size 3 1 (.slice a6 (1 + l4.length) c6) (1 + l4.length) (natV (xk :: l4)) from by
                          have e : natV (xk :: l4) = [.int .i64 (xk : Int)] ++ natV l4 := rfl
                          rw [e]
                          exact hown6)
                        clear hown6 hg6 hb6
                        rcases HDJ.out with ⟨hjF, hpj, hxF⟩ | ⟨p, y, hpj', hQp, hpy, hed, hix⟩
                        · have HLJ := Lib.hid (entB_at HND.out HXK.out hpj)
                          have HDN := Lib.hid (show ∃ r b, xk :: l4 = r ++ [b] ∧ WayTo next F ins wan r b from by
                            rcases HST.out with ⟨rfl, hw⟩ | hb
                            · exact ⟨[], xk, rfl, xk, hxF, .nil _, hw, by simp⟩
                            · exact hb.done hxF)
                          clear hpj hxF hjF HDJ
                          go_wp2_with (refine wpl_lookup_g Tryz.keyN Tryz.underlying171 rfl rfl HM6.out rfl rfl HLJ.out ?_)
                          go_roundg 0
                          case measure => have := HGJ.out; omega
                          case rel => exact ⟨xk :: l4, a6, c6, by rw [List.length_cons, Nat.add_comm], by rw [List.length_cons, Nat.add_comm]; exact HO6.out, HM6.out, HE6.out, by simp; omega, .inr ⟨rfl, rfl, HDN.out⟩⟩
                        · have HLJ := Lib.hid (entB_at HND.out HXK.out hpy)
                          have HBK := Lib.hid (show Back next ins wan F y (xk :: l4) from by
                            rcases HST.out with ⟨rfl, hw⟩ | hb
                            · exact Back.first hed hix hw
                            · exact hb.more hed hix)
                          have HQP := Lib.hid hQp
                          clear hpy hed hix hQp HDJ
                          go_wp2_with (refine wpl_lookup_g Tryz.keyN Tryz.underlying171 rfl rfl HM6.out rfl rfl HLJ.out ?_)
                          go_roundg (p + 1)
                          case measure => have := HGJ.out; omega
                          case rel => exact ⟨xk :: l4, a6, c6, by rw [List.length_cons, Nat.add_comm], by rw [List.length_cons, Nat.add_comm]; exact HO6.out, HM6.out, HE6.out, by simp; omega, .inl ⟨p, y, rfl, by omega, rfl, HQP.out, .inr HBK.out⟩⟩
                      · have HRB := Lib.hid hrb
                        have HWT := Lib.hid hwt
                        have HEF := Lib.hid (HX.out.trans hE)
                        have hl4 : l4.length = r.length + 1 := by rw [hrb]; simp
                        have HRN := Lib.hid (show r.length ≤ n by omega)
                        rw [hl4] at HO4 ⊢
                        clear hO hM hE hrb hwt hl4
                        go_wp2
                        go_ret
                        exact ⟨r, b, _, _, rfl, HWT.out, HRN.out, by rw [← HRB.out]; exact HO4.out, HEF.out⟩
                  · have hwk2 : wan k = false := by simpa using hwk
                    rw [hwk2]
                    have HPK := Lib.hid (HBI.out.put HQI.out HLQ.out HLC.out HKN.out HIK.out hwk2)
                    clear hwk hwk2
                    go_wp2_with fail
                    go_roundg (gk - 1)
                    case measure => have := HGC.out; omega
                    case rel => exact ⟨c + 1, Q' ++ [k], par' ++ [(q : Int)], by have := HGC.out; omega, by go_num, HO8.out, HM8.out, HE8.out, HPK.out, HQK.out, HQ2.out⟩
                · have hik2 : ins k = false := by simpa using hik
                  rw [hik2]
                  have HSK := Lib.hid (HBI.out.skip HQI.out HLQ.out HLC.out (fun h => absurd h hik))
                  clear hik hik2
                  go_wp2_with fail
                  go_roundg (gk - 1)
                  case measure => have := HGC.out; omega
                  case rel => exact ⟨c + 1, Q', par', by have := HGC.out; omega, by go_num, HO5.out, HM5.out, HE5.out, HSK.out, HQN.out, HQI.out⟩
            · have hcl : l.length ≤ c := by omega
              have HNX2 := Lib.hid (hB.next_ hqi HLQ.out hcl)
              have hcI : ¬ (c : Int) < (l.length : Int) := by omega
              have HOF := Lib.hid hO
              clear hgc hM hE hB hQn hqi hO
              go_wp2_with fail
              go_roundg (G0 - 1)
              case measure => have := HGI.out; omega
              case rel => exact ⟨i + 1, Q', par', by have := HGI.out; omega, HOF.out, HMI.out, HEI.out, HNX2.out, HQN.out⟩
        · obtain rfl : i = Q.length := by omega
          obtain ⟨l, b, hwt⟩ := HEX.out
          exact absurd hwt HBI.out.none_

end Go.Proofs.YtbmimdnpchldlaaGreatDoor

namespace Go.Proofs.YtbmimdnpchldlaaGreatDoor
open Go.RowKit

theorem Tryz.enterTrue (ar : Array Value) (w : World) : (callFunc 65 ar).run Tryz.prog w = .ok (.enter 65 ar) w := by kernel_rfl
theorem Tryz.enterHome (ar : Array Value) (w : World) : (callFunc 66 ar).run Tryz.prog w = .ok (.enter 66 ar) w := by kernel_rfl
theorem Tryz.enterIn (ar : Array Value) (w : World) : (callFunc 67 ar).run Tryz.prog w = .ok (.enter 67 ar) w := by kernel_rfl
theorem Tryz.enterBit (ar : Array Value) (w : World) : (callFunc 68 ar).run Tryz.prog w = .ok (.enter 68 ar) w := by kernel_rfl
theorem Tryz.enterLast (ar : Array Value) (w : World) : (callFunc 69 ar).run Tryz.prog w = .ok (.enter 69 ar) w := by kernel_rfl

theorem bit_shrG (c n : Nat) (hc : c < 64) : (bits .and .i64 ((c : Int) / 2 ^ n) 1 == 1) = c.testBit n := by
  have e : (c : Int) / 2 ^ n = ((c / 2 ^ n : Nat) : Int) := by push_cast; rfl
  have hle : c / 2 ^ n ≤ c := Nat.div_le_self _ _
  have h := i64_and_nat (c / 2 ^ n) 1 (by omega) (by omega)
  rw [e, show (1 : Int) = ((1 : Nat) : Int) from rfl, h, Nat.and_one_is_mod, Nat.testBit_eq_decide_div_mod_eq, Bool.eq_iff_iff, beq_iff_eq, decide_eq_true_eq]
  omega

theorem clo_true (i : Nat) (w : World) : Calls Tryz.prog 65 (#[.int .i64 (i : Int)] ++ #[]) w fun e w' => e = .returned (.bool true) ∧ Ext w w' := by
  show Calls Tryz.prog 65 #[.int .i64 (i : Int)] w _
  have HE := Lib.hid (Ext.refl w)
  go_enter Tryz.func65, Tryz.ntmps65
  go_wp2
  go_ret
  exact ⟨rfl, HE.out⟩
theorem clo_home (i m H : Nat) (w : World) (h : w.heap[H]? = some (.cells #[.int .i64 (m : Int)] 3 (0, 0))) :
    Calls Tryz.prog 66 (#[.int .i64 (i : Int)] ++ #[.pointer (some ⟨H, 0, none⟩)]) w fun e w' => e = .returned (.bool (i == m)) ∧ Ext w w' := by
  show Calls Tryz.prog 66 #[.int .i64 (i : Int), .pointer (some ⟨H, 0, none⟩)] w _
  have HE := Lib.hid (Ext.refl w)
  have c0 := blk_cell h (i := 0) rfl
  have HQ := Lib.hid (show ((i : Int) == (m : Int)) = (i == m) by rw [Bool.eq_iff_iff, beq_iff_eq, beq_iff_eq]; omega)
  clear h
  go_enter Tryz.func66, Tryz.ntmps66
  go_wp2
  go_ret
  exact ⟨congrArg (fun z => Ending.returned (.bool z)) HQ.out, HE.out⟩
theorem clo_last (i m H : Nat) (w : World) (h : w.heap[H]? = some (.cells #[.int .i64 (m : Int)] 3 (0, 0))) :
    Calls Tryz.prog 69 (#[.int .i64 (i : Int)] ++ #[.pointer (some ⟨H, 0, none⟩)]) w fun e w' => e = .returned (.bool (i == m)) ∧ Ext w w' := by
  show Calls Tryz.prog 69 #[.int .i64 (i : Int), .pointer (some ⟨H, 0, none⟩)] w _
  have HE := Lib.hid (Ext.refl w)
  have c0 := blk_cell h (i := 0) rfl
  have HQ := Lib.hid (show ((i : Int) == (m : Int)) = (i == m) by rw [Bool.eq_iff_iff, beq_iff_eq, beq_iff_eq]; omega)
  clear h
  go_enter Tryz.func69, Tryz.ntmps69
  go_wp2
  go_ret
  exact ⟨congrArg (fun z => Ending.returned (.bool z)) HQ.out, HE.out⟩
theorem clo_in (i m H PB D n : Nat) (pn : Nat → Nat) (w : World) (h : w.heap[H]? = some (.cells #[.int .i64 (m : Int)] 3 (0, 0))) (hp : w.heap[PB]? = some (.cells #[.slice (some ⟨D, 0, none⟩) n n] 27 (0, 0)))
    (hD : w.cell? ⟨D, i, none⟩ = some (.int .i64 (pn i : Int))) (hi : i < n) :
    Calls Tryz.prog 67 (#[.int .i64 (i : Int)] ++ #[.pointer (some ⟨PB, 0, none⟩), .pointer (some ⟨H, 0, none⟩)]) w fun e w' => e = .returned (.bool (pn i == m)) ∧ Ext w w' := by
  show Calls Tryz.prog 67 #[.int .i64 (i : Int), .pointer (some ⟨PB, 0, none⟩), .pointer (some ⟨H, 0, none⟩)] w _
  have c0 := blk_cell h (i := 0) rfl
  have c1 := blk_cell hp (i := 0) rfl
  have hiI : (i : Int) < (n : Int) := by omega
  have hi0 : (0 : Int) ≤ (i : Int) := by omega
  have HQ := Lib.hid (show ((pn i : Int) == (m : Int)) = (pn i == m) by rw [Bool.eq_iff_iff, beq_iff_eq, beq_iff_eq]; omega)
  have HE := Lib.hid fun k => below_drewN (Ext.refl w) k
  generalize pn i = p at *
  clear h hp
  go_enter Tryz.func67, Tryz.ntmps67
  go_wp2_with fail
  go_quiet (fail)
  go_wp2
  go_ret
  exact ⟨congrArg (fun z => Ending.returned (.bool z)) HQ.out, HE.out _⟩
theorem clo_bit (i b Z B n so : Nat) (g0 g1 g2 g4 : Value) (sets : List Int) (sb sc : Nat) (w : World) (hz : w.heap[Z]? = some (.cells #[g0, g1, g2, .slice (some ⟨sb, so, none⟩) n sc, g4] 44 (0, 0))) (hb : w.heap[B]? = some (.cells #[.int .i64 (b : Int)] 3 (0, 0)))
    (hs : w.cell? ⟨sb, so + i, none⟩ = some (.int .i64 (bitsN sets i : Int))) (hbs : bitsN sets i < 64) (hi : i < n) (hb6 : b < 6) :
    Calls Tryz.prog 68 (#[.int .i64 (i : Int)] ++ #[.pointer (some ⟨Z, 0, none⟩), .pointer (some ⟨B, 0, none⟩)]) w fun e w' => e = .returned (.bool ((bitsN sets i).testBit b)) ∧ Ext w w' := by
  show Calls Tryz.prog 68 #[.int .i64 (i : Int), .pointer (some ⟨Z, 0, none⟩), .pointer (some ⟨B, 0, none⟩)] w _
  have c3 := blk_cell hz (i := 3) rfl
  have c1 := blk_cell hb (i := 0) rfl
  have hiI : (i : Int) < (n : Int) := by omega
  have hi0 : (0 : Int) ≤ (i : Int) := by omega
  generalize bitsN sets i = v at *
  have HQ := Lib.hid (bit_shrG v b hbs)
  have HE := Lib.hid fun k => below_drewN (Ext.refl w) k
  have hv0 : (0 : Int) ≤ (v : Int) := by omega
  have hv1 : (v : Int) < 64 := by omega
  have hb0 : (0 : Int) ≤ (b : Int) := by omega
  have hb1 : (b : Int) < 6 := by omega
  clear hz hb
  go_enter Tryz.func68, Tryz.ntmps68
  go_wp2_with fail
  go_quiet (fail)
  go_wp2
  go_ret
  exact ⟨congrArg (fun z => Ending.returned (.bool z)) HQ.out, HE.out _⟩

end Go.Proofs.YtbmimdnpchldlaaGreatDoor
