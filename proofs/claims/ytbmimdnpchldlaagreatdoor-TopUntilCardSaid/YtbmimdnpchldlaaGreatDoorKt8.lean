/- Several texts in one: TypB; JoinT; FitC; Mach; Clo; Maps; Do. No condition. -/
import Derived.Test.YtbmimdnpchldlaaGreatDoorKt7
import Derived.WalkSmall
import Derived.Test.YtbmimdnpchldlaaGreatDoorKt1
import Derived.MapKept
namespace Go.Proofs.YtbmimdnpchldlaaGreatDoor

theorem getD_left {α : Type} (a b : List α) (d : α) (n : Nat) (h : n < a.length) : (a ++ b).getD n d = a.getD n d := by
  simp [List.getD_eq_getElem?_getD, List.getElem?_append_left h]

theorem getD_right {α : Type} (a b : List α) (d : α) (n : Nat) (h : a.length ≤ n) : (a ++ b).getD n d = b.getD (n - a.length) d := by
  simp [List.getD_eq_getElem?_getD, List.getElem?_append_right h]

/-- The term lies in the list from a place on, its ends in the table. -/
def Lies (l : List Op2) (es : List Int) (t : Tm) (p : Nat) : Prop :=
  ∀ j, j < t.size → opAt l (p + j) = t.flat.getD j (0, 0) ∧ endAt es (p + j) = (t.ends p).getD j 0

theorem Lies.one {l : List Op2} {es : List Int} {k v : Int} {a : Tm} {p : Nat} (h : Lies l es (.n1 k v a) p) : Lies l es a (p + 1) := by
  intro j hj
  have := h (j + 1) (by simp [Tm.size]; omega)
  rw [show p + 1 + j = p + (j + 1) by omega]
  simpa [Tm.flat, Tm.ends] using this

theorem Lies.two {l : List Op2} {es : List Int} {k v : Int} {a b : Tm} {p : Nat} (h : Lies l es (.n2 k v a b) p) : Lies l es a (p + 1) ∧ Lies l es b (p + 1 + a.size) := by
  constructor
  · intro j hj
    have := h (j + 1) (by simp [Tm.size]; omega)
    rw [show p + 1 + j = p + (j + 1) by omega]
    simp only [Tm.flat, Tm.ends, List.getD_cons_succ] at this
    rw [getD_left _ _ _ _ (by rw [Tm.flat_len]; exact hj), getD_left _ _ _ _ (by rw [Tm.ends_len]; exact hj)] at this
    exact this
  · intro j hj
    have := h (a.size + j + 1) (by simp [Tm.size]; omega)
    rw [show p + 1 + a.size + j = p + (a.size + j + 1) by omega]
    simp only [Tm.flat, Tm.ends, List.getD_cons_succ] at this
    rw [getD_right _ _ _ _ (by rw [Tm.flat_len]; omega), getD_right _ _ _ _ (by rw [Tm.ends_len]; omega), Tm.flat_len, Tm.ends_len, Nat.add_sub_cancel_left] at this
    exact this

theorem Lies.head {l : List Op2} {es : List Int} {t : Tm} {p : Nat} (h : Lies l es t p) : (opAt l p).1 = t.kind ∧ endAt es p = ((p + t.size : Nat) : Int) := by
  have := h 0 t.size_pos
  obtain ⟨v, r, hr⟩ := flat_head t
  have hz := ends_zero t p (by rw [Tm.ends_len]; exact t.size_pos)
  refine ⟨by rw [show p = p + 0 from rfl, this.1, hr]; rfl, ?_⟩
  rw [show endAt es p = endAt es (p + 0) from rfl, this.2, ← hz, List.getD_eq_getElem?_getD, List.getElem?_eq_getElem (by rw [Tm.ends_len]; exact t.size_pos)]
  rfl

theorem chain_end (l : List Op2) (es : List Int) (tk : Bool) (lim : Int) (f k : Nat) (h : lim ≤ k) : chainL l es tk lim f k = true := by
  cases f with
  | zero => rfl
  | succ f => rw [chainL, if_neg (by omega)]

theorem chain_step {l : List Op2} {es : List Int} {a : Tm} {k : Nat} (h : Lies l es a k) (tk : Bool) (lim : Int) (f : Nat) (hl : (k : Int) < lim) :
    chainL l es tk lim (f + 1) k = ((mkK a.kind == tk) && chainL l es tk lim f (k + a.size)) := by
  rw [chainL, if_pos hl, h.head.1, h.head.2]
  rfl

theorem all_split {P : Nat → Prop} (p m : Nat) : (∀ j, j < m + 1 → P (p + j)) ↔ (P p ∧ ∀ j, j < m → P (p + 1 + j)) := by
  constructor
  · intro h
    exact ⟨h 0 (by omega), fun j hj => by have := h (j + 1) (by omega); rwa [show p + (j + 1) = p + 1 + j by omega] at this⟩
  · intro ⟨h0, h⟩ j hj
    cases j with
    | zero => exact h0
    | succ j => have := h j (by omega); rwa [show p + 1 + j = p + (j + 1) by omega] at this

theorem all_cut {P : Nat → Prop} (p m n : Nat) : (∀ j, j < m + n → P (p + j)) ↔ ((∀ j, j < m → P (p + j)) ∧ ∀ j, j < n → P (p + m + j)) := by
  constructor
  · intro h
    exact ⟨fun j hj => h j (by omega), fun j hj => by have := h (m + j) (by omega); rwa [show p + (m + j) = p + m + j by omega] at this⟩
  · intro ⟨h0, h⟩ j hj
    by_cases hm : j < m
    · exact h0 j hm
    · have := h (j - m) (by omega)
      rwa [show p + m + (j - m) = p + j by omega] at this

theorem typed_iff (l : List Op2) (es : List Int) (t : Tm) : ∀ p, Lies l es t p → p + t.size ≤ l.length → ((∀ j, j < t.size → partsB l es (p + j) = true) ↔ t.typed = true) := by
  induction t with
  | n0 k v =>
    intro p h hl
    have e : partsB l es p = true := by
      unfold partsB
      rw [h.head.2]
      exact chain_end _ _ _ _ _ _ (by simp [Tm.size])
    simp only [Tm.size, Tm.typed]
    constructor
    · intro _; trivial
    · intro _ j hj
      obtain rfl : j = 0 := by omega
      exact e
  | n1 k v a ih =>
    intro p h hl
    have ha := h.one
    have hp := a.size_pos
    have e : partsB l es p = (mkK a.kind == tkK k) := by
      unfold partsB
      rw [h.head.2, h.head.1, chain_step ha _ _ _ (by simp [Tm.size]; omega), chain_end _ _ _ _ _ _ (by simp [Tm.size]; omega), Bool.and_true]
      rfl
    simp only [Tm.size] at hl
    have := ih (p + 1) ha (by omega)
    simp only [Tm.size, Tm.typed]
    rw [all_split (P := fun j => partsB l es j = true), this, e]
    simp
  | n2 k v a b ih1 ih2 =>
    intro p h hl
    obtain ⟨ha, hb⟩ := h.two
    have hp := a.size_pos
    have hp2 := b.size_pos
    simp only [Tm.size] at hl
    have e : partsB l es p = ((mkK a.kind == tkK k) && (mkK b.kind == tkK k)) := by
      unfold partsB
      rw [h.head.2, h.head.1, chain_step ha _ _ _ (by simp [Tm.size]; omega), show l.length = (l.length - 1) + 1 by omega, chain_step hb _ _ _ (by simp [Tm.size]; omega), chain_end _ _ _ _ _ _ (by simp [Tm.size]; omega), Bool.and_true]
      rfl
    have h1 := ih1 (p + 1) ha (by omega)
    have h2 := ih2 (p + 1 + a.size) hb (by omega)
    simp only [Tm.size, Tm.typed]
    rw [all_split (P := fun j => partsB l es j = true), all_cut (P := fun j => partsB l es j = true), h1, h2, e]
    simp [Bool.and_eq_true, and_assoc]

theorem Lies.self (t : Tm) : Lies t.flat (t.ends 0) t 0 := by
  intro j hj
  simp [opAt, endAt]

/-- Each op may stand over so many variables. -/
def Tm.good (t : Tm) (vars : Int) : Prop := ∀ o ∈ t.flat, opE o vars = 0

theorem check_tree (t : Tm) (vars : Int) (h1 : 0 ≤ vars) (h2 : vars ≤ 6) (hok : t.ok) (hs : t.size ≤ 60) (hg : t.good vars) : checkL t.flat vars = if t.typed then .ok (mkK t.kind) else .error 5 := by
  unfold checkL
  rw [if_neg (by omega), ends_term t hok hs]
  show checkE t.flat (t.ends 0) vars = _
  have : t.flat.find? (fun o => opE o vars != 0) = none := by
    rw [List.find?_eq_none]
    intro o ho
    simpa using hg o ho
  unfold checkE
  rw [this]
  have hh := typed_iff t.flat (t.ends 0) t 0 (Lies.self t) (by rw [Tm.flat_len]; omega)
  have hall : (List.range t.flat.length).all (partsB t.flat (t.ends 0)) = t.typed := by
    rw [Bool.eq_iff_iff, ← hh, List.all_eq_true, Tm.flat_len]
    simp
  simp only [hall, (Lies.self t).head.1]

theorem num_kinds (k : Int) (h1 : 1 ≤ k) (h2 : k ≤ 5) : mkK k = false ∧ tkK k = false := by simp [mkK, tkK]; omega
theorem cmp_kinds (k : Int) (h1 : 6 ≤ k) (h2 : k ≤ 7) : mkK k = true ∧ tkK k = false := by simp [mkK, tkK]; omega
theorem log_kinds (k : Int) (h1 : 8 ≤ k) (h2 : k ≤ 12) : mkK k = true ∧ tkK k = true := by simp [mkK, tkK]; omega

/-! The generators' terms. -/
theorem numLeaf_typed (r : Op2) (vars k : Int) (h : vars ≤ 1000) : (numLeaf r vars k).typed = true ∧ mkK (numLeaf r vars k).kind = false ∧ (numLeaf r vars k).good vars := by
  unfold numLeaf
  split
  · rename_i hk
    refine ⟨rfl, rfl, ?_⟩
    intro o ho
    simp only [Tm.flat, List.mem_singleton] at ho
    subst ho
    have := pk_bd r.2 vars (by omega)
    simp [opE, okK]
    omega
  · refine ⟨rfl, rfl, ?_⟩
    intro o ho
    simp only [Tm.flat, List.mem_singleton] at ho
    subst ho
    have := pk_bd r.2 9 (by omega)
    simp [opE, okK]
    omega

theorem good_n2 {k : Int} {a b : Tm} {vars : Int} (hk : 3 ≤ k) (hk2 : k ≤ 12) (ha : a.good vars) (hb : b.good vars) : (Tm.n2 k 0 a b).good vars := by
  intro o ho
  simp only [Tm.flat, List.mem_cons, List.mem_append] at ho
  rcases ho with rfl | ho | ho
  · simp [opE, okK]; omega
  · exact ha o ho
  · exact hb o ho

theorem good_n1 {k : Int} {a : Tm} {vars : Int} (hk : 3 ≤ k) (hk2 : k ≤ 12) (ha : a.good vars) : (Tm.n1 k 0 a).good vars := by
  intro o ho
  simp only [Tm.flat, List.mem_cons] at ho
  rcases ho with rfl | ho
  · simp [opE, okK]; omega
  · exact ha o ho

theorem good_n0 {k : Int} {vars : Int} (hk : 3 ≤ k) (hk2 : k ≤ 12) : (Tm.n0 k 0).good vars := by
  intro o ho
  simp only [Tm.flat, List.mem_singleton] at ho
  subst ho
  simp [opE, okK]; omega

theorem numT_typed (raw : List Op2) (vars : Int) (h : vars ≤ 1000) : ∀ d p, (numT raw vars d p).1.typed = true ∧ mkK (numT raw vars d p).1.kind = false ∧ (numT raw vars d p).1.good vars := by
  intro d
  induction d with
  | zero => intro p; unfold numT; exact numLeaf_typed _ _ _ h
  | succ d ih =>
    intro p
    unfold numT
    split
    · exact numLeaf_typed _ _ _ h
    · have hk := numKind_bd (rawAt raw p) p
      obtain ⟨m1, m2⟩ := num_kinds (numKind (rawAt raw p) p + 1) (by omega) (by omega)
      obtain ⟨a1, a2, a3⟩ := ih (p + 1)
      obtain ⟨b1, b2, b3⟩ := ih (numT raw vars d (p + 1)).2
      exact ⟨by simp only [Tm.typed, a1, a2, b1, b2, m2]; rfl, m1, good_n2 (by omega) (by omega) a3 b3⟩

theorem cmpT_typed (raw : List Op2) (vars k : Int) (p : Nat) (h : vars ≤ 1000) : (cmpT raw vars k p).1.typed = true ∧ mkK (cmpT raw vars k p).1.kind = true ∧ (cmpT raw vars k p).1.good vars := by
  obtain ⟨m1, m2⟩ := cmp_kinds (6 + k % 2) (by omega) (by omega)
  obtain ⟨a1, a2, a3⟩ := numT_typed raw vars h 1 (p + 1)
  obtain ⟨b1, b2, b3⟩ := numT_typed raw vars h 1 (numT raw vars 1 (p + 1)).2
  exact ⟨by simp only [cmpT, Tm.typed, a1, a2, b1, b2, m2]; rfl, m1, good_n2 (by omega) (by omega) a3 b3⟩

theorem truT_typed (raw : List Op2) (vars : Int) (h : vars ≤ 1000) : ∀ d p, (truT raw vars d p).1.typed = true ∧ mkK (truT raw vars d p).1.kind = true ∧ (truT raw vars d p).1.good vars := by
  have leaf : ∀ p, (Tm.n0 (11 + pk (rawAt raw p).2 2) 0).typed = true ∧ mkK (Tm.n0 (11 + pk (rawAt raw p).2 2) 0).kind = true ∧ (Tm.n0 (11 + pk (rawAt raw p).2 2) 0).good vars := by
    intro p
    have := pk_bd (rawAt raw p).2 2 (by omega)
    exact ⟨rfl, (log_kinds (11 + pk (rawAt raw p).2 2) (by omega) (by omega)).1, good_n0 (by omega) (by omega)⟩
  intro d
  induction d with
  | zero => intro p; unfold truT; split; (· exact leaf p); · exact cmpT_typed _ _ _ _ h
  | succ d ih =>
    intro p
    unfold truT
    split
    · exact leaf p
    · split
      · exact cmpT_typed _ _ _ _ h
      · obtain ⟨a1, a2, a3⟩ := ih (p + 1)
        obtain ⟨b1, b2, b3⟩ := ih (truT raw vars d (p + 1)).2
        split
        · obtain ⟨m1, m2⟩ := log_kinds 10 (by omega) (by omega)
          exact ⟨by simp only [Tm.typed, a1, a2, m2]; rfl, m1, good_n1 (by omega) (by omega) a3⟩
        · obtain ⟨m1, m2⟩ := log_kinds (8 + truKind (rawAt raw p) (d + 1) p % 2) (by omega) (by omega)
          exact ⟨by simp only [Tm.typed, a1, a2, b1, b2, m2]; rfl, m1, good_n2 (by omega) (by omega) a3 b3⟩

end Go.Proofs.YtbmimdnpchldlaaGreatDoor

namespace Go.Proofs.YtbmimdnpchldlaaGreatDoor
open Go.RowKit

theorem check_t (v : Value) (t : Tm) (vars : Int) (w : World) (h : IsT w v t) (ht : Tab w) (h1 : 0 ≤ vars) (h2 : vars ≤ 6) (hok : t.ok) (hs : t.size ≤ 60) (hg : t.good vars) :
    Calls Tryz.prog 87 #[v, .int .i64 vars] w fun e w' => e = .returned (.tuple #[.bool (t.typed && mkK t.kind), .int .i64 (if t.typed then 0 else 5)]) ∧ Ext w w' := by
  have hc := check_tree t vars h1 h2 hok hs hg
  have he := ends_term t hok hs
  have hcl : checkL t.flat vars = checkE t.flat (t.ends 0) vars := by
    unfold checkL
    rw [if_neg (by omega), he]
  rw [hcl] at hc
  refine (check_ok v t.flat vars w (t.ends 0) h ht h1 h2 he).mono ?_
  rintro e w' ⟨hE, hm⟩
  rw [hc] at hm
  cases ht : t.typed
  · rw [ht] at hm; exact ⟨hm, hE⟩
  · rw [ht] at hm; simpa using ⟨hm, hE⟩

end Go.Proofs.YtbmimdnpchldlaaGreatDoor

namespace Go.Proofs.YtbmimdnpchldlaaGreatDoor
open Go.RowKit

/-- What the laws need of a term that was drawn. -/
structure Fit (t : Tm) (vars : Int) (n : Nat) (truth : Bool) : Prop where
  ok : t.ok
  typed : t.typed = true
  kind : mkK t.kind = truth
  good : t.good vars
  size : t.size ≤ n

theorem fit_num (raw : List Op2) (vars : Int) (h : vars ≤ 1000) : Fit (numO raw vars) vars 7 false := by
  obtain ⟨h1, h2, h3⟩ := numT_typed raw vars h 2 0
  exact ⟨numT_ok raw vars 2 0, h1, h2, h3, numT_two raw vars 0⟩

theorem fit_tru (raw : List Op2) (vars : Int) (h : vars ≤ 1000) : Fit (truO raw vars) vars 26 true := by
  obtain ⟨h1, h2, h3⟩ := truT_typed raw vars h 3 0
  exact ⟨truT_ok raw vars 3 0, h1, h2, h3, truT_small raw vars⟩

theorem ok_n2 {k : Int} {a b : Tm} (hk : 3 ≤ k ∧ k ≤ 9) (ha : a.ok) (hb : b.ok) : (Tm.n2 k 0 a b).ok := by
  refine ⟨by omega, by omega, ?_, ha, hb⟩
  unfold partsOf
  rw [if_pos (by omega)]

theorem ok_n1 {a : Tm} (ha : a.ok) : (Tm.n1 10 0 a).ok := by
  refine ⟨by omega, by omega, ?_, ha⟩
  unfold partsOf
  simp

/-- Check of a term of two parts, or of one. -/
theorem check_n2 (k : Int) (b : Bool) (c : Int) (v : Value) (x y : Tm) (vars : Int) (w : World) (m n : Nat) (p q : Bool) (h : IsT w v (.n2 k 0 x y)) (ht : Tab w) (h1 : 0 ≤ vars) (h2 : vars ≤ 6) (hx : Fit x vars m p) (hy : Fit y vars n q) (hk : 3 ≤ k ∧ k ≤ 9) (hmn : m + n < 60)
    (hb : b = ((p == tkK k && q == tkK k) && mkK k)) (hc : c = if (p == tkK k && q == tkK k) then 0 else 5) :
    Calls Tryz.prog 87 #[v, .int .i64 vars] w fun e w' => e = .returned (.tuple #[.bool b, .int .i64 c]) ∧ Ext w w' := by
  have hty : (Tm.n2 k 0 x y).typed = (p == tkK k && q == tkK k) := by simp [Tm.typed, hx.typed, hy.typed, hx.kind, hy.kind]
  have := check_t v (.n2 k 0 x y) vars w h ht h1 h2 (ok_n2 hk hx.ok hy.ok) (by have := hx.size; have := hy.size; simp only [Tm.size]; omega) (good_n2 (by omega) (by omega) hx.good hy.good)
  rw [hty] at this
  rw [hb, hc]
  exact this

theorem check_n1 (b : Bool) (c : Int) (v : Value) (x : Tm) (vars : Int) (w : World) (m : Nat) (p : Bool) (h : IsT w v (.n1 10 0 x)) (ht : Tab w) (h1 : 0 ≤ vars) (h2 : vars ≤ 6) (hx : Fit x vars m p) (hmn : m < 60)
    (hb : b = p) (hc : c = if p then 0 else 5) :
    Calls Tryz.prog 87 #[v, .int .i64 vars] w fun e w' => e = .returned (.tuple #[.bool b, .int .i64 c]) ∧ Ext w w' := by
  have hty : (Tm.n1 10 0 x).typed = p := by
    have : tkK 10 = true := rfl
    simp [Tm.typed, hx.typed, hx.kind, this]
  have := check_t v (.n1 10 0 x) vars w h ht h1 h2 (ok_n1 hx.ok) (by have := hx.size; simp only [Tm.size]; omega) (good_n1 (by omega) (by omega) hx.good)
  rw [hty] at this
  rw [hb, hc]
  have e : mkK (Tm.n1 10 0 x).kind = true := rfl
  rw [e, Bool.and_true] at this
  exact this

theorem check_one (b : Bool) (v : Value) (x : Tm) (vars : Int) (w : World) (m : Nat) (p : Bool) (h : IsT w v x) (ht : Tab w) (h1 : 0 ≤ vars) (h2 : vars ≤ 6) (hx : Fit x vars m p) (hmn : m ≤ 60) (hb : b = p) :
    Calls Tryz.prog 87 #[v, .int .i64 vars] w fun e w' => e = .returned (.tuple #[.bool b, .int .i64 0]) ∧ Ext w w' := by
  have := check_t v x vars w h ht h1 h2 hx.ok (by have := hx.size; omega) hx.good
  rw [hx.typed, hx.kind] at this
  subst hb
  simpa using this


end Go.Proofs.YtbmimdnpchldlaaGreatDoor

namespace Go.Proofs.YtbmimdnpchldlaaGreatDoor
open Go.RowKit

/-- What a machine's block holds: the stack grows at its end. -/
structure Mc (w : World) (M B : Nat) (ar : Option Addr) (cr : Nat) (env st : List Int) : Prop where
  c0 : ∃ ao co, w.cell? ⟨M, 0, none⟩ = some (.slice ao st.length co) ∧ w.ownsRow B 3 1 (.slice ao st.length co) st.length (st.map (.int .i64)) ∧ (Value.slice ao st.length co).ownBlock ≠ some M
  c1 : w.cell? ⟨M, 1, none⟩ = some (.slice ar env.length cr)
  fz : ∀ i, w.frozen? ⟨M, i, none⟩ = false
  row : Row w 1 ar env.length cr (env.map (.int .i64))
  old : ∀ q, ar = some q → 0 < env.length → q.block < B
  new : B ≤ M

theorem Mc.ext {w w' : World} {M B : Nat} {ar : Option Addr} {cr : Nat} {env st : List Int} (h : Mc w M B ar cr env st) (hb : Ext w w') : Mc w' M B ar cr env st := by
  have hG := World.block_lt_of_cell? _ _ h.c1
  have hk := hb.block M hG
  obtain ⟨ao, co, h5, h6, h7⟩ := h.c0
  exact ⟨⟨ao, co, cells_of h5 hk, own_ext h6 hb, h7⟩, cells_of h.c1 hk, fun i => (World.frozen?_of_block (w := w) hk).trans (h.fz i), h.row.ext hb, h.old, h.new⟩

theorem Mc.lt {w : World} {M B : Nat} {ar : Option Addr} {cr : Nat} {env st : List Int} (h : Mc w M B ar cr env st) : M < w.heap.size := World.block_lt_of_cell? _ _ h.c1

/-- Its stack is set. -/
theorem Mc.put {w : World} {M B : Nat} {ar : Option Addr} {cr : Nat} {env st : List Int} (h : Mc w M B ar cr env st) {st' : List Int} {a' : Option Addr} {m c' : Nat} (hm : m = st'.length)
    (ho : w.ownsRow B 3 1 (.slice a' m c') m (st'.map (.int .i64))) (hn : (Value.slice a' m c').ownBlock ≠ some M) : Mc (w.setCell ⟨M, 0, none⟩ (.slice a' m c')) M B ar cr env st' := by
  obtain ⟨ao, co, h5, _, _⟩ := h.c0
  have hG := h.new
  subst hm
  exact ⟨⟨a', c', cell_set h5, own_setCell ho _ hn, hn⟩, cell_set_ne h.c1 (by omega), fun i => (World.frozen?_setCell _ _ _ _).trans (h.fz i),
    row_setCell h.row _ (fun q hq hx => by have := h.old q hq (by simpa using hx); show q.block ≠ M; omega), h.old, h.new⟩

theorem int_row {w : World} {a : Option Addr} {cap : Nat} {l : List Int} (h : Row w 1 a l.length cap (l.map (.int .i64))) : ∃ b off, (0 < l.length → a = some ⟨b, off, none⟩) ∧ ∀ (i : Nat) (hi : i < l.length), w.cell? ⟨b, off + i, none⟩ = some (.int .i64 l[i]) := by
  obtain ⟨b, off, _, h2, h3⟩ := h.lie
  refine ⟨b, off, fun hl => h2 (by simpa using hl), fun i hi => h3 i _ (by simp [hi])⟩

set_option maxRecDepth 100000 in
set_option maxHeartbeats 1000000 in
theorem pop_any (w : World) (M B : Nat) (ar : Option Addr) (cr : Nat) (env s : List Int) (n : Int) (h : Mc w M B ar cr env (s ++ [n])) (hs : s.length ≤ 1000) :
    Calls Tryz.prog 90 #[.pointer (some ⟨M, 0, none⟩)] w fun e w' =>
      e = .returned (.int .i64 n) ∧ Mc w' M B ar cr env s ∧ w.grownBy w' (some M) := by
  obtain ⟨ao, co, c0, h6, h7⟩ := h.c0
  have hg : ∃ g, ao = some ⟨g, 0, none⟩ ∧ B ≤ g ∧ s.length + 1 ≤ co ∧ w.cell? ⟨g, s.length, none⟩ = some (.int .i64 n) := by
    rcases h6.2 with ⟨_, hn⟩ | ⟨g, cap, cur, hv, hb, hgg, hnc, hcm, hcs, ht⟩
    · simp at hn
    · simp only [Value.slice.injEq] at hv
      obtain ⟨rfl, _, rfl⟩ := hv
      refine ⟨g, rfl, hb, by simpa using hnc, ?_⟩
      have := h6.cells (g := g) rfl s.length (.int .i64 n) (by simp)
      simpa [Addr.add_lit] using this
  obtain ⟨g, rfl, hBg, hco, cg⟩ := hg
  have gz := h.fz 0
  simp only [List.length_append, List.length_singleton] at c0 h7
  have H := Lib.hid h
  have hMlt := h.lt
  simp only [List.length_append, List.length_singleton, List.map_append, List.map_cons, List.map_nil] at h6
  have H6 := Lib.hid (ownsRow_pop (size := 1) (by simp) h6)
  have H7 := Lib.hid h7
  have hcm : co ≤ maxLen := by obtain ⟨a, c, e, hr⟩ := h6.row; simp only [Value.slice.injEq] at e; obtain ⟨_, _, rfl⟩ := e; exact hr.max
  unfold maxLen at hcm
  clear h h6 h7
  go_enter Tryz.func90, Tryz.ntmps90
  go_wp2_with fail
  go_quiet (fail)
  go_wp2_with fail
  refine region_tail 14 (by kernel_rfl) (by kernel_rfl) ?_
  simp only [List.take_succ_cons, List.take_zero, List.drop_succ_cons, List.drop_zero]
  repeat still_step
  have hwr : IntKind.i64.wrap (s.length : Int) = (s.length : Int) := IntWalk.i64_in _ (by omega)
  have hle : s.length ≤ co := by omega
  simp only [hwr]
  repeat still_step
  try refine wpStill_nil ?_
  go_wp2
  go_ret
  have hE : Ext w (w.drewN (nq + 1)) := below_drewN (Ext.refl w) _
  exact ⟨rfl, (H.out.ext hE).put rfl (own_ext H6.out hE) (by simpa [Value.ownBlock] using H7.out), ⟨rfl, rfl, rfl, by simp, fun i hi hn => Below.heap_setCell _ _ _ _ (fun e => hn (by rw [e]))⟩⟩

theorem flag_fn (b : Bool) (w : World) : Calls Tryz.prog 122 #[.bool b] w fun e w' => e = .returned (.int .i64 (if b then 1 else 0)) ∧ w = w' := by
  cases b
  all_goals
    go_enter Tryz.func122, Tryz.ntmps122
    go_wp2
    go_ret
    exact ⟨rfl, rfl⟩

end Go.Proofs.YtbmimdnpchldlaaGreatDoor

namespace Go.Proofs.YtbmimdnpchldlaaGreatDoor
open Go.RowKit

set_option maxHeartbeats 1000000 in
theorem clo_add (p q : Addr) (a b : Int) (w : World) (hp : w.cell? p = some (.int .i64 a)) (hq : w.cell? q = some (.int .i64 b)) (ha : -1000000 ≤ a ∧ a ≤ 1000000) (hb : -1000000 ≤ b ∧ b ≤ 1000000) :
    Calls Tryz.prog 118 #[.pointer (some p), .pointer (some q)] w fun e w' => e = .returned (.int .i64 (a + b)) ∧ w = w' := by
  go_enter Tryz.func118, Tryz.ntmps118
  go_wp2
  go_ret
  exact ⟨rfl, rfl⟩

set_option maxHeartbeats 1000000 in
theorem clo_sub (p q : Addr) (a b : Int) (w : World) (hp : w.cell? p = some (.int .i64 a)) (hq : w.cell? q = some (.int .i64 b)) (ha : -1000000 ≤ a ∧ a ≤ 1000000) (hb : -1000000 ≤ b ∧ b ≤ 1000000) :
    Calls Tryz.prog 119 #[.pointer (some p), .pointer (some q)] w fun e w' => e = .returned (.int .i64 (a - b)) ∧ w = w' := by
  go_enter Tryz.func119, Tryz.ntmps119
  go_wp2
  go_ret
  exact ⟨rfl, rfl⟩

set_option maxHeartbeats 1000000 in
theorem clo_mul (p q : Addr) (a b : Int) (w : World) (hp : w.cell? p = some (.int .i64 a)) (hq : w.cell? q = some (.int .i64 b)) (ha : -1000000 ≤ a ∧ a ≤ 1000000) (hb : -1000000 ≤ b ∧ b ≤ 1000000) :
    Calls Tryz.prog 120 #[.pointer (some p), .pointer (some q)] w fun e w' => e = .returned (.int .i64 (a * b)) ∧ w = w' := by
  have h1 : a * b ≤ 1000000000000 := by
    have h2 : (a * b).natAbs ≤ 1000000 * 1000000 := by rw [Int.natAbs_mul]; exact Nat.mul_le_mul (by omega) (by omega)
    omega
  have h2 : -1000000000000 ≤ a * b := by
    have h2 : (a * b).natAbs ≤ 1000000 * 1000000 := by rw [Int.natAbs_mul]; exact Nat.mul_le_mul (by omega) (by omega)
    omega
  have hwr : IntKind.i64.wrap (a * b) = a * b := IntWalk.i64_in _ (by omega)
  go_enter Tryz.func120, Tryz.ntmps120
  go_wp2
  go_ret
  exact ⟨rfl, rfl⟩

set_option maxHeartbeats 1000000 in
theorem clo_eq (p q : Addr) (a b : Int) (w : World) (hp : w.cell? p = some (.int .i64 a)) (hq : w.cell? q = some (.int .i64 b))  :
    Calls Tryz.prog 121 #[.pointer (some p), .pointer (some q)] w fun e w' => e = .returned (.int .i64 (if a = b then 1 else 0)) ∧ w = w' := by
  go_enter Tryz.func121, Tryz.ntmps121
  go_wp2_with fail
  refine (flag_fn _ w).mono ?_
  rintro e w' ⟨rfl, rfl⟩
  go_wp2
  all_goals
    go_ret
    exact ⟨rfl, rfl⟩

set_option maxHeartbeats 1000000 in
theorem clo_lt (p q : Addr) (a b : Int) (w : World) (hp : w.cell? p = some (.int .i64 a)) (hq : w.cell? q = some (.int .i64 b))  :
    Calls Tryz.prog 123 #[.pointer (some p), .pointer (some q)] w fun e w' => e = .returned (.int .i64 (if a < b then 1 else 0)) ∧ w = w' := by
  go_enter Tryz.func123, Tryz.ntmps123
  go_wp2_with fail
  refine (flag_fn _ w).mono ?_
  rintro e w' ⟨rfl, rfl⟩
  go_wp2
  all_goals
    go_ret
    exact ⟨rfl, rfl⟩

set_option maxHeartbeats 1000000 in
theorem clo_and (p q : Addr) (a b : Int) (w : World) (hp : w.cell? p = some (.int .i64 a)) (hq : w.cell? q = some (.int .i64 b)) (ha : a = 0 ∨ a = 1) (hb : b = 0 ∨ b = 1) :
    Calls Tryz.prog 124 #[.pointer (some p), .pointer (some q)] w fun e w' => e = .returned (.int .i64 (if a = 1 ∧ b = 1 then 1 else 0)) ∧ w = w' := by
  rcases ha with rfl | rfl
  all_goals rcases hb with rfl | rfl
  all_goals
    go_enter Tryz.func124, Tryz.ntmps124
    go_wp2
    go_ret
    exact ⟨rfl, rfl⟩

set_option maxHeartbeats 1000000 in
theorem clo_or (p q : Addr) (a b : Int) (w : World) (hp : w.cell? p = some (.int .i64 a)) (hq : w.cell? q = some (.int .i64 b)) (ha : a = 0 ∨ a = 1) (hb : b = 0 ∨ b = 1) :
    Calls Tryz.prog 125 #[.pointer (some p), .pointer (some q)] w fun e w' => e = .returned (.int .i64 (if a = 1 ∨ b = 1 then 1 else 0)) ∧ w = w' := by
  rcases ha with rfl | rfl
  all_goals rcases hb with rfl | rfl
  all_goals
    go_enter Tryz.func125, Tryz.ntmps125
    go_wp2
    go_ret
    exact ⟨rfl, rfl⟩

end Go.Proofs.YtbmimdnpchldlaaGreatDoor

namespace Go.Proofs.YtbmimdnpchldlaaGreatDoor
open Go.RowKit Go.MapKept

/-- The block b is a map with these entries, in the order in which they were laid. -/
def MapI (w : World) (b : Nat) (l : List (Int × Value)) : Prop :=
  ∃ (es : Array MapEntry) (clock : Nat), w.heap[b]? = some (.map es clock) ∧ es.toList.map (fun e => (e.key, e.val)) = l.map (fun p => (Value.int .i64 p.1, p.2))

theorem MapI.new (w : World) : MapI (w.alloc (.map #[] 0)) w.heap.size [] := ⟨#[], 0, (MapKept.heap_alloc w _).1, rfl⟩

theorem heap_alloc2 (w : World) (a b : Obj) : ((w.alloc a).alloc b).heap.size = w.heap.size + 1 + 1 := by simp

theorem find_int (k : Int) : ∀ (es : List MapEntry) (l : List (Int × Value)) (i : Nat), es.map (fun e => (e.key, e.val)) = l.map (fun p => (Value.int .i64 p.1, p.2)) →
    (l.lookup k = none → Instr.findNow (.int .i64) (.int .i64 k) es i = some none) ∧ (∀ x, l.lookup k = some x → ∃ j, Instr.findNow (.int .i64) (.int .i64 k) es i = some (some (j, x)))
  | [], [], i, _ => ⟨fun _ => rfl, fun x h => by simp at h⟩
  | [], _ :: _, i, h => by simp at h
  | _ :: _, [], i, h => by simp at h
  | e :: es, (n, v) :: l, i, h => by
    simp only [List.map_cons, List.cons.injEq, Prod.mk.injEq] at h
    obtain ⟨⟨hk, hv⟩, ht⟩ := h
    have ih := find_int k es l (i + 1) ht
    unfold Instr.findNow
    rw [hk]
    simp only [Instr.sameNow, if_true]
    by_cases hn : k = n
    · subst hn
      simp [List.lookup, hv]
    · have e1 : (k == n) = false := by rw [beq_eq_false_iff_ne]; exact hn
      simp only [List.lookup, e1]
      exact ih

section
variable {P : Program}

theorem run_lookup_int {w : World} {b : Nat} {l : List (Int × Value)} (h : MapI w b l) {t kt e : TypeId} (ht : P.underlying t = some (.map kt e)) (hk : P.underlying kt = some (.int .i64)) (k : Int) (x : Value) (hx : l.lookup k = some x) :
    (Instr.lookup t (.map (some b)) (.int .i64 k) false).run P w = .ok x w := by
  obtain ⟨es, clock, hb, he⟩ := h
  obtain ⟨j, hj⟩ := (find_int k es.toList l 0 he).2 x hx
  have hc : (Instr.checkKey es.isEmpty 10000 kt (.int .i64 k)).run P w = .ok () w := run_checkKey hk (by simp [IsKey]) _ 9999
  simp [Instr.lookup, run_underlying ht, Result.andThen, MapKept.run_getObj_map hb, hc, MapKept.run_findKey hk hj]

/-- The world with one entry more. -/
theorem run_insert_int {w : World} {b : Nat} {l : List (Int × Value)} (h : MapI w b l) {t kt e : TypeId} (ht : P.underlying t = some (.map kt e)) (hk : P.underlying kt = some (.int .i64)) (k : Int) (x : Value) (hx : l.lookup k = none) :
    ∃ w', (Instr.mapUpdate t (.map (some b)) (.int .i64 k) x).run P w = .ok () w' ∧ MapI w' b (l ++ [(k, x)]) ∧ w.grownBy w' (some b) := by
  obtain ⟨es, clock, hb, he⟩ := h
  have hj := (find_int k es.toList l 0 he).1 hx
  have hc : (Instr.checkKey false 10000 kt (.int .i64 k)).run P w = .ok () w := run_checkKey hk (by simp [IsKey]) _ 9999
  have hlt : b < w.heap.size := (Array.getElem?_eq_some_iff.1 hb).1
  refine ⟨{ w with heap := w.heap.setIfInBounds b (.map (es.push { key := .int .i64 k, val := x, born := clock }) (clock + 1)) }, ?_, ?_, ?_⟩
  · simp [Instr.mapUpdate, run_underlying ht, Result.andThen, MapKept.run_getObj_map hb, hc, MapKept.run_findKey hk hj, MapKept.run_setObj_map _ hb]
  · refine ⟨es.push { key := .int .i64 k, val := x, born := clock }, clock + 1, ?_, ?_⟩
    · simp [hlt]
    · simp [he]
  · refine ⟨rfl, rfl, rfl, by simp, fun i hi hn => ?_⟩
    have : b ≠ i := fun e => hn (by rw [e])
    simp [this]

theorem wpl_insert {w : World} {ops : Array Oper} {rest : List Oper} {o : Oper} {a : Act} {Q : Exit → Act → World → Prop} (hgd : o.guard = none) {m y x : Operand} {t : TypeId} (ho : o.op = .insert t m y x)
    {kt e : TypeId} (ht : P.underlying t = some (.map kt e)) (hk : P.underlying kt = some (.int .i64)) {b : Nat} {l : List (Int × Value)} (h : MapI w b l) {k : Int} (hm : a.eval m = .map (some b)) (hy : a.eval y = .int .i64 k) (hl : l.lookup k = none)
    (H : ∀ w', MapI w' b (l ++ [(k, a.eval x)]) → w.grownBy w' (some b) → wpList P ops Q rest (a.put o.dst undef) w') : wpList P ops Q (o :: rest) a w := by
  refine wpList_plain hgd fun K hK => ?_
  obtain ⟨w', hr, h1, h2⟩ := run_insert_int (P := P) h ht hk k (a.eval x) hl
  unfold Oper.wp execOp
  simp only [ho, Sem.run_bind, Sem.run_pure, Result.andThen_ok, hm, hy, hr]
  exact hK _ _ (H w' h1 h2)

theorem wpl_lookup {w : World} {ops : Array Oper} {rest : List Oper} {o : Oper} {a : Act} {Q : Exit → Act → World → Prop} (hgd : o.guard = none) {m y : Operand} {t : TypeId} (ho : o.op = .lookup t m y false)
    {kt e : TypeId} (ht : P.underlying t = some (.map kt e)) (hk : P.underlying kt = some (.int .i64)) {b : Nat} {l : List (Int × Value)} (h : MapI w b l) {k : Int} (hm : a.eval m = .map (some b)) (hy : a.eval y = .int .i64 k) {x : Value} (hl : l.lookup k = some x)
    (H : wpList P ops Q rest (a.put o.dst x) w) : wpList P ops Q (o :: rest) a w := by
  refine wpList_plain hgd fun K hK => ?_
  have hr := run_lookup_int (P := P) h ht hk k x hl
  unfold Oper.wp execOp
  simp only [ho, Sem.run_bind, Sem.run_pure, Result.andThen_ok, hm, hy, hr]
  exact hK _ _ H
end

end Go.Proofs.YtbmimdnpchldlaaGreatDoor

namespace Go.Proofs.YtbmimdnpchldlaaGreatDoor
open Go.RowKit

/-- What an op of two parts makes of them. -/
def opV (k a b : Int) : Int :=
  if k = 3 then a + b else if k = 4 then a - b else if k = 5 then a * b
  else if k = 6 then (if a = b then 1 else 0) else if k = 7 then (if a < b then 1 else 0)
  else if k = 8 then (if a = 1 ∧ b = 1 then 1 else 0) else (if a = 1 ∨ b = 1 then 1 else 0)

def Small (n : Int) : Prop := -1000000 ≤ n ∧ n ≤ 1000000
instance (n : Int) : Decidable (Small n) := by unfold Small; infer_instance

/-- What 'do' ends in where it has n to put onto s. -/
def DoPost (w : World) (M B : Nat) (ar : Option Addr) (cr : Nat) (env s : List Int) (n : Int) (e : Ending) (w' : World) : Prop :=
  Below B w w' ∧ if Small n then e = .returned (.tuple #[]) ∧ Mc w' M B ar cr env (s ++ [n]) else e = .panicked [{ v := errV 8, recovered := false }]

theorem Row.oneAt (w : World) (t : TypeId) (x : Value) (k : Nat) (hk : k = w.heap.size) : Row (w.alloc (.cells #[x] t)) 1 (some ⟨k, 0, none⟩) 1 1 [x] := by subst hk; exact Row.one w t x

/-- The append and the store that end 'do'. -/
theorem do_tail (w W w1 : World) (M B : Nat) (ar : Option Addr) (cr : Nat) (env s : List Int) (n : Int) (ao a1 : Option Addr) (co d1 k : Nat) (h : Mc W M B ar cr env s) (hB : Below B w W) (hsm : Small n)
    (c0 : W.cell? ⟨M, 0, none⟩ = some (.slice ao s.length co)) (h6 : W.ownsRow B 3 1 (.slice ao s.length co) s.length (s.map (.int .i64))) (h7 : (Value.slice ao s.length co).ownBlock ≠ some M)
    (hown : w1.ownsRow B 3 1 (.slice a1 (s.length + 1) d1) (s.length + 1) (s.map (.int .i64) ++ [.int .i64 n])) (hg : (W.alloc (.cells #[.int .i64 n] 3)).grownBy w1 (Value.slice ao s.length co).ownBlock)
    (hb : (Value.slice a1 (s.length + 1) d1).ownBlock = (Value.slice ao s.length co).ownBlock ∨ (Value.slice a1 (s.length + 1) d1).ownBlock = some k) (hk : M < k) :
    w1.cell? ⟨M, 0, none⟩ = some (.slice ao s.length co) ∧ w1.frozen? ⟨M, 0, none⟩ = false ∧ DoPost w M B ar cr env s n (.returned (.tuple #[])) (w1.setCell ⟨M, 0, none⟩ (.slice a1 (s.length + 1) d1)) := by
  have hM := h.lt
  have hnew := h.new
  have hnG : (Value.slice a1 (s.length + 1) d1).ownBlock ≠ some M := by
    rcases hb with hb | hb
    · rw [hb]; exact h7
    · rw [hb]; intro e; injection e; omega
  have hblk : ∀ i, i < W.heap.size → some i ≠ (Value.slice ao s.length co).ownBlock → w1.heap[i]? = W.heap[i]? := fun i hi hn => (hg.block i (by simp; omega) hn).trans (Below.heap_alloc _ _ _ hi)
  have hGb := hblk M hM (fun e => h7 e.symm)
  have hz : ∀ i, w1.frozen? ⟨M, i, none⟩ = false := fun i => (World.frozen?_of_block (w := W) hGb).trans (h.fz i)
  refine ⟨cells_of c0 hGb, hz 0, ?_, ?_⟩
  · have h1 : Below B W w1 := (((Ext.refl W).alloc (Nat.le_refl _) _).mono (by omega)).grown hg (by simp; omega) (fun k hk => (h6.lt k hk).1)
    exact (hB.trans h1).setCell hnew _
  · rw [if_pos hsm]
    refine ⟨rfl, ⟨a1, d1, ?_, ?_, ?_⟩, ?_, fun i => (World.frozen?_setCell _ _ _ _).trans (hz i), ?_, h.old, hnew⟩
    · have := cell_set (v := .slice a1 (s.length + 1) d1) (cells_of c0 hGb)
      simpa using this
    · have := own_setCell hown (p := ⟨M, 0, none⟩) (.slice a1 (s.length + 1) d1) hnG
      simpa using this
    · simpa using hnG
    · exact cell_set_ne (cells_of h.c1 hGb) (by omega)
    · refine h.row.keep fun q hq hx => ?_
      have hqB := h.old q hq (by simpa using hx)
      rw [Below.heap_setCell _ _ _ _ (show q.block ≠ M by omega)]
      refine hblk _ (by omega) (fun e => ?_)
      have := (h6.lt _ e.symm).1
      omega

theorem do_over (w W : World) (M B : Nat) (ar : Option Addr) (cr : Nat) (env s : List Int) (n : Int) (hB : Below B w W) (hn : ¬ Small n) : DoPost w M B ar cr env s n (.panicked [{ v := errV 8, recovered := false }]) W := by
  refine ⟨hB, ?_⟩
  rw [if_neg hn]

set_option maxRecDepth 100000 in
set_option maxHeartbeats 2000000 in
theorem do_num (w : World) (M B : Nat) (ar : Option Addr) (cr : Nat) (env s : List Int) (n : Int) (h : Mc w M B ar cr env s) (hs : s.length ≤ 900) (hn : I64 n) :
    Calls Tryz.prog 89 #[.pointer (some ⟨M, 0, none⟩), .agg #[.int .i64 1, .int .i64 n]] w (DoPost w M B ar cr env s n) := by
  have hMw := h.lt
  have hE : Ext w (w.alloc (Obj.cells #[.int .i64 1, .int .i64 n] 75)) := (Ext.refl w).alloc (Nat.le_refl _) _
  have g := h.ext hE
  have hBM := h.new
  have HB := Lib.hid (hE.mono (by omega : B ≤ w.heap.size))
  clear hE h
  unfold I64 at hn
  go_enter Tryz.func89, Tryz.ntmps89
  obtain ⟨ao, co, c0, h6, h7⟩ := g.c0
  have gz := g.fz 0
  have G := Lib.hid g
  have H6 := Lib.hid h6
  have H7 := Lib.hid h7
  have hM := g.lt
  have h6a := h6.alloc (Obj.cells #[.int .i64 n] 3)
  clear g h6 h7
  go_wp2_with (at_builtin; go_must (refine wpl_append rfl rfl Tryz.slInts B rfl h6a rfl (Row.oneAt _ _ _ _ (by simp)) (by simp [Value.oneCell']) (by unfold maxLen; omega) (by omega) (by simp; omega) ?_))
  all_goals first
    | exact ⟨rfl, do_over _ _ _ _ _ _ _ _ _ HB.out (by unfold Small; omega)⟩
    | (intro v1 w1 hown hg hb _
       obtain ⟨a1, d1, rfl, hr1⟩ := hown.row
       have hsm : Small n := by unfold Small; omega
       obtain ⟨hc, hz, hP⟩ := do_tail w _ w1 M B _ cr env s n ao a1 co d1 _ G.out HB.out hsm c0 H6.out H7.out hown hg hb (by omega)
       have HP := Lib.hid hP
       clear hown hg hb hr1 c0 gz h6a hP
       go_wp2
       go_end0
       exact HP.out)

set_option maxRecDepth 100000 in
set_option maxHeartbeats 2000000 in
theorem do_yes (w : World) (M B : Nat) (ar : Option Addr) (cr : Nat) (env s : List Int)  (h : Mc w M B ar cr env s) (hs : s.length ≤ 900)  :
    Calls Tryz.prog 89 #[.pointer (some ⟨M, 0, none⟩), .agg #[.int .i64 11, .int .i64 0]] w (DoPost w M B ar cr env s 1) := by
  have hMw := h.lt
  have hE : Ext w (w.alloc (Obj.cells #[.int .i64 11, .int .i64 0] 75)) := (Ext.refl w).alloc (Nat.le_refl _) _
  have g := h.ext hE
  have hBM := h.new
  have HB := Lib.hid (hE.mono (by omega : B ≤ w.heap.size))
  clear hE h
  go_enter Tryz.func89, Tryz.ntmps89
  obtain ⟨ao, co, c0, h6, h7⟩ := g.c0
  have gz := g.fz 0
  have G := Lib.hid g
  have H6 := Lib.hid h6
  have H7 := Lib.hid h7
  have hM := g.lt
  have h6a := h6.alloc (Obj.cells #[.int .i64 1] 3)
  clear g h6 h7
  go_wp2_with (at_builtin; go_must (refine wpl_append rfl rfl Tryz.slInts B rfl h6a rfl (Row.oneAt _ _ _ _ (by simp)) (by simp [Value.oneCell']) (by unfold maxLen; omega) (by omega) (by simp; omega) ?_))
  all_goals first
    | exact ⟨rfl, do_over _ _ _ _ _ _ _ _ _ HB.out (by unfold Small; omega)⟩
    | (intro v1 w1 hown hg hb _
       obtain ⟨a1, d1, rfl, hr1⟩ := hown.row
       have hsm : Small 1 := by unfold Small; omega
       obtain ⟨hc, hz, hP⟩ := do_tail w _ w1 M B _ cr env s 1 ao a1 co d1 _ G.out HB.out hsm c0 H6.out H7.out hown hg hb (by omega)
       have HP := Lib.hid hP
       clear hown hg hb hr1 c0 gz h6a hP
       go_wp2
       go_end0
       exact HP.out)

set_option maxRecDepth 100000 in
set_option maxHeartbeats 2000000 in
theorem do_no (w : World) (M B : Nat) (ar : Option Addr) (cr : Nat) (env s : List Int)  (h : Mc w M B ar cr env s) (hs : s.length ≤ 900)  :
    Calls Tryz.prog 89 #[.pointer (some ⟨M, 0, none⟩), .agg #[.int .i64 12, .int .i64 0]] w (DoPost w M B ar cr env s 0) := by
  have hMw := h.lt
  have hE : Ext w (w.alloc (Obj.cells #[.int .i64 12, .int .i64 0] 75)) := (Ext.refl w).alloc (Nat.le_refl _) _
  have g := h.ext hE
  have hBM := h.new
  have HB := Lib.hid (hE.mono (by omega : B ≤ w.heap.size))
  clear hE h
  go_enter Tryz.func89, Tryz.ntmps89
  obtain ⟨ao, co, c0, h6, h7⟩ := g.c0
  have gz := g.fz 0
  have G := Lib.hid g
  have H6 := Lib.hid h6
  have H7 := Lib.hid h7
  have hM := g.lt
  have h6a := h6.alloc (Obj.cells #[.int .i64 0] 3)
  clear g h6 h7
  go_wp2_with (at_builtin; go_must (refine wpl_append rfl rfl Tryz.slInts B rfl h6a rfl (Row.oneAt _ _ _ _ (by simp)) (by simp [Value.oneCell']) (by unfold maxLen; omega) (by omega) (by simp; omega) ?_))
  all_goals first
    | exact ⟨rfl, do_over _ _ _ _ _ _ _ _ _ HB.out (by unfold Small; omega)⟩
    | (intro v1 w1 hown hg hb _
       obtain ⟨a1, d1, rfl, hr1⟩ := hown.row
       have hsm : Small 0 := by unfold Small; omega
       obtain ⟨hc, hz, hP⟩ := do_tail w _ w1 M B _ cr env s 0 ao a1 co d1 _ G.out HB.out hsm c0 H6.out H7.out hown hg hb (by omega)
       have HP := Lib.hid hP
       clear hown hg hb hr1 c0 gz h6a hP
       go_wp2
       go_end0
       exact HP.out)

set_option maxRecDepth 100000 in
set_option maxHeartbeats 2000000 in
theorem do_var (w : World) (M B : Nat) (ar : Option Addr) (cr : Nat) (env s : List Int) (v : Nat) (hv : v < env.length) (h : Mc w M B ar cr env s) (hs : s.length ≤ 900) (hn : I64 env[v]) :
    Calls Tryz.prog 89 #[.pointer (some ⟨M, 0, none⟩), .agg #[.int .i64 2, .int .i64 (v : Int)]] w (DoPost w M B ar cr env s env[v]) := by
  have hMw := h.lt
  have hE : Ext w (w.alloc (Obj.cells #[.int .i64 2, .int .i64 (v : Int)] 75)) := (Ext.refl w).alloc (Nat.le_refl _) _
  have g := h.ext hE
  have hBM := h.new
  have HB := Lib.hid (hE.mono (by omega : B ≤ w.heap.size))
  clear hE h
  obtain ⟨b, off, ha, hc⟩ := int_row g.row
  obtain rfl := ha (by omega)
  have ce := hc v hv
  have c1 := g.c1
  have fz1 := g.fz 1
  have hlen : env.length ≤ 9223372036854775807 := by have := g.row.le; have := g.row.max; unfold maxLen at this; omega
  have H0 := Lib.hid g
  clear hc ha g
  generalize hx : env[v] = x at *
  unfold I64 at hn
  go_enter Tryz.func89, Tryz.ntmps89
  go_wp2_with fail
  go_quiet (fail)
  have g := H0.out.ext (below_drewN (Ext.refl _) nq)
  have hE := Below.trans HB.out (below_drewN (Below.refl B _) nq)
  clear H0 HB ce c1 fz1
  have HB := Lib.hid hE
  clear hE
  generalize (w.alloc (Obj.cells #[.int .i64 2, .int .i64 v] 75)).drewN nq = W at *
  obtain ⟨ao, co, c0, h6, h7⟩ := g.c0
  have gz := g.fz 0
  have G := Lib.hid g
  have H6 := Lib.hid h6
  have H7 := Lib.hid h7
  have hM := g.lt
  have h6a := h6.alloc (Obj.cells #[.int .i64 x] 3)
  clear g h6 h7
  go_wp2_with (at_builtin; go_must (refine wpl_append rfl rfl Tryz.slInts B rfl h6a rfl (Row.oneAt _ _ _ _ (by simp)) (by simp [Value.oneCell']) (by unfold maxLen; omega) (by omega) (by simp; omega) ?_))
  all_goals first
    | exact ⟨rfl, do_over _ _ _ _ _ _ _ _ _ HB.out (by unfold Small; omega)⟩
    | (intro v1 w1 hown hg hb _
       obtain ⟨a1, d1, rfl, hr1⟩ := hown.row
       have hsm : Small x := by unfold Small; omega
       obtain ⟨hc, hz, hP⟩ := do_tail w _ w1 M B _ cr env s x ao a1 co d1 _ G.out HB.out hsm c0 H6.out H7.out hown hg hb (by omega)
       have HP := Lib.hid hP
       clear hown hg hb hr1 c0 gz h6a hP
       go_wp2
       go_end0
       exact HP.out)

set_option maxRecDepth 100000 in
set_option maxHeartbeats 2000000 in
theorem do_not (w : World) (M B : Nat) (ar : Option Addr) (cr : Nat) (env s : List Int) (x : Int) (h : Mc w M B ar cr env (s ++ [x])) (hs : s.length ≤ 900) (hx : Small x) :
    Calls Tryz.prog 89 #[.pointer (some ⟨M, 0, none⟩), .agg #[.int .i64 10, .int .i64 0]] w (DoPost w M B ar cr env s (1 - x)) := by
  have hMw := h.lt
  have hE : Ext w (w.alloc (Obj.cells #[.int .i64 10, .int .i64 0] 75)) := (Ext.refl w).alloc (Nat.le_refl _) _
  have g := h.ext hE
  have hBM := h.new
  have HB := Lib.hid (hE.mono (by omega : B ≤ w.heap.size))
  clear hE h
  unfold Small at hx
  go_enter Tryz.func89, Tryz.ntmps89
  go_wp2_with fail
  refine (pop_any _ M B ar cr env s x g (by omega)).mono ?_
  rintro e W ⟨rfl, h, hb⟩
  have hE := HB.out.grown hb (by simp; omega) (fun k hk => by cases hk; omega)
  clear HB hb g
  have HB := Lib.hid hE
  have g := h
  clear hE h
  obtain ⟨ao, co, c0, h6, h7⟩ := g.c0
  have gz := g.fz 0
  have G := Lib.hid g
  have H6 := Lib.hid h6
  have H7 := Lib.hid h7
  have hM := g.lt
  have h6a := h6.alloc (Obj.cells #[.int .i64 (1 - x)] 3)
  clear g h6 h7
  go_wp2_with (at_builtin; go_must (refine wpl_append rfl rfl Tryz.slInts B rfl h6a rfl (Row.oneAt _ _ _ _ (by simp)) (by simp [Value.oneCell']) (by unfold maxLen; omega) (by omega) (by simp; omega) ?_))
  all_goals first
    | exact ⟨rfl, do_over _ _ _ _ _ _ _ _ _ HB.out (by unfold Small; omega)⟩
    | (intro v1 w1 hown hg hb _
       obtain ⟨a1, d1, rfl, hr1⟩ := hown.row
       have hsm : Small (1 - x) := by unfold Small; omega
       obtain ⟨hc, hz, hP⟩ := do_tail w _ w1 M B _ cr env s (1 - x) ao a1 co d1 _ G.out HB.out hsm c0 H6.out H7.out hown hg hb (by omega)
       have HP := Lib.hid hP
       clear hown hg hb hr1 c0 gz h6a hP
       go_wp2
       go_end0
       exact HP.out)

set_option maxRecDepth 100000 in
set_option maxHeartbeats 2000000 in
theorem do_add (w : World) (M B : Nat) (ar : Option Addr) (cr : Nat) (env s : List Int) (a b : Int) (h : Mc w M B ar cr env (s ++ [b] ++ [a])) (hs : s.length ≤ 900) (ha : Small a) (hb : Small b) :
    Calls Tryz.prog 89 #[.pointer (some ⟨M, 0, none⟩), .agg #[.int .i64 3, .int .i64 0]] w (DoPost w M B ar cr env s (a + b)) := by
  have hMw := h.lt
  have hE : Ext w (w.alloc (Obj.cells #[.int .i64 3, .int .i64 0] 75)) := (Ext.refl w).alloc (Nat.le_refl _) _
  have g := h.ext hE
  have hBM := h.new
  have HB := Lib.hid (hE.mono (by omega : B ≤ w.heap.size))
  clear hE h
  unfold Small at ha hb
  have hn2 : -2000000 ≤ a + b ∧ a + b ≤ 2000000 := by omega
  generalize hn : ((a + b) : Int) = n at *
  have Hn := Lib.hid hn
  clear hn
  have hmm := @run_makeMap Tryz.prog
  have ko : (w.alloc (Obj.cells #[.int .i64 3, .int .i64 0] 75)).cell? ⟨w.heap.size, 0, none⟩ = some (.int .i64 3) := by simp [go_sem]
  have hmf : ∀ (fn : Fn) (first cap : Array Value) (w : World), (Instr.makeFunc fn first cap).run Tryz.prog w = .ok (.func fn first cap) w := fun _ _ _ _ => rfl
  go_enter Tryz.func89, Tryz.ntmps89
  go_wp2_with fail
  refine (pop_any _ M B ar cr env (s ++ [b]) a g (by simp; omega)).mono ?_
  rintro e W1 ⟨rfl, h, hbb⟩
  have hE := HB.out.grown hbb (by simp; omega) (fun k hk => by cases hk; omega)
  have ko1 := hbb.cell ko (by simp; omega)
  have hW1 : w.heap.size < W1.heap.size := World.block_lt_of_cell? _ _ ko1
  clear HB hbb g ko
  have HB := Lib.hid hE
  have g := h
  clear hE h
  go_wp2_with fail
  refine (pop_any _ M B ar cr env s b g (by omega)).mono ?_
  rintro e W ⟨rfl, h, hbb⟩
  have hE := HB.out.grown hbb (by omega) (fun k hk => by cases hk; omega)
  have ko2 := hbb.cell ko1 (by simp; omega)
  have hW2 : w.heap.size < W.heap.size := World.block_lt_of_cell? _ _ ko2
  clear HB hbb g ko1
  have hMW := h.lt
  have hE2 : Ext W (((W.alloc (Obj.cells #[.int .i64 a] 3)).alloc (Obj.cells #[.int .i64 b] 3)).alloc (Obj.map #[] 0)) := ((((Ext.refl W).alloc (Nat.le_refl _) _).alloc (by simp) _).alloc (by simp; omega) _)
  have hm := MapI.new ((W.alloc (Obj.cells #[.int .i64 a] 3)).alloc (Obj.cells #[.int .i64 b] 3))
  have h5 : (((W.alloc (Obj.cells #[.int .i64 a] 3)).alloc (Obj.cells #[.int .i64 b] 3)).alloc (Obj.map #[] 0)).cell? ⟨W.heap.size, 0, none⟩ = some (.int .i64 a) := by simp [go_sem]
  have h6 : (((W.alloc (Obj.cells #[.int .i64 a] 3)).alloc (Obj.cells #[.int .i64 b] 3)).alloc (Obj.map #[] 0)).cell? ⟨W.heap.size + 1, 0, none⟩ = some (.int .i64 b) := by simp [go_sem]
  simp only [heap_alloc2] at hm
  have ko3 := cells_of (w := W) ko2 (hE2.block _ hW2)
  clear ko2
  have HB := Lib.hid hE
  have HG := Lib.hid h
  have HE2 := Lib.hid hE2
  clear hE h hE2
  have hsX : W.heap.size + 1 + 1 < (((W.alloc (Obj.cells #[.int .i64 a] 3)).alloc (Obj.cells #[.int .i64 b] 3)).alloc (Obj.map #[] 0)).heap.size := by simp
  go_wp2_with (refine wpl_insert rfl rfl Tryz.underlying192 Tryz.underlying3 hm rfl rfl rfl ?_)
  generalize ((W.alloc (Obj.cells #[.int .i64 a] 3)).alloc (Obj.cells #[.int .i64 b] 3)).alloc (Obj.map #[] 0) = X at *
  intro X1 m1 g1
  have G1 := Lib.hid g1
  clear g1 hm
  go_wp2_with (refine wpl_insert rfl rfl Tryz.underlying192 Tryz.underlying3 m1 rfl rfl rfl ?_)
  intro X2 m2 g2
  have G2 := Lib.hid (G1.out.trans' g2)
  clear g2 m1 G1
  go_wp2_with (refine wpl_insert rfl rfl Tryz.underlying192 Tryz.underlying3 m2 rfl rfl rfl ?_)
  intro X3 m3 g3
  have G3 := Lib.hid (G2.out.trans' g3)
  clear g3 m2 G2
  go_wp2_with (refine wpl_insert rfl rfl Tryz.underlying192 Tryz.underlying3 m3 rfl rfl rfl ?_)
  intro X4 m4 g4
  have G4 := Lib.hid (G3.out.trans' g4)
  clear g4 m3 G3
  go_wp2_with (refine wpl_insert rfl rfl Tryz.underlying192 Tryz.underlying3 m4 rfl rfl rfl ?_)
  intro X5 m5 g5
  have G5 := Lib.hid (G4.out.trans' g5)
  clear g5 m4 G4
  go_wp2_with (refine wpl_insert rfl rfl Tryz.underlying192 Tryz.underlying3 m5 rfl rfl rfl ?_)
  intro X6 m6 g6
  have G6 := Lib.hid (G5.out.trans' g6)
  clear g6 m5 G5
  go_wp2_with (refine wpl_insert rfl rfl Tryz.underlying192 Tryz.underlying3 m6 rfl rfl rfl ?_)
  intro X7 m7 g7
  have G7 := Lib.hid (G6.out.trans' g7)
  clear g7 m6 G6
  have ko4 := G7.out.cell ko3 (by simp; omega)
  clear ko3
  have k5 := G7.out.cell h5 (by simp; omega)
  have k6 := G7.out.cell h6 (by simp)
  clear h5 h6
  go_wp2_with (refine wpl_lookup rfl rfl Tryz.underlying192 Tryz.underlying3 m7 rfl rfl rfl ?_)
  clear m7
  go_wp2_with fail
  refine (clo_add _ _ a b _ k5 k6 ha hb).mono ?_
  rintro e Y ⟨rfl, rfl⟩
  rw [Hn.out]
  have hEY := HE2.out.grown G7.out (by omega) (fun k hk => by cases hk; omega)
  have g := HG.out.ext hEY
  clear ko4
  have hE := Below.trans HB.out (hEY.mono (by omega))
  clear HB HE2 hEY HG G7 k5 k6
  have HB := Lib.hid hE
  clear hE
  obtain ⟨ao, co, c0, h6, h7⟩ := g.c0
  have gz := g.fz 0
  have G := Lib.hid g
  have H6 := Lib.hid h6
  have H7 := Lib.hid h7
  have hM := g.lt
  have h6a := h6.alloc (Obj.cells #[.int .i64 n] 3)
  clear g h6 h7
  go_wp2_with (at_builtin; go_must (refine wpl_append rfl rfl Tryz.slInts B rfl h6a rfl (Row.oneAt _ _ _ _ (by simp)) (by simp [Value.oneCell']) (by unfold maxLen; omega) (by omega) (by simp; omega) ?_))
  all_goals first
    | exact ⟨rfl, do_over _ _ _ _ _ _ _ _ _ HB.out (by unfold Small; omega)⟩
    | (intro v1 w1 hown hg hb _
       obtain ⟨a1, d1, rfl, hr1⟩ := hown.row
       have hsm : Small n := by unfold Small; omega
       obtain ⟨hc, hz, hP⟩ := do_tail w _ w1 M B _ cr env s n ao a1 co d1 _ G.out HB.out hsm c0 H6.out H7.out hown hg hb (by omega)
       have HP := Lib.hid hP
       clear hown hg hb hr1 c0 gz h6a hP
       go_wp2
       go_end0
       exact HP.out)

set_option maxRecDepth 100000 in
set_option maxHeartbeats 2000000 in
theorem do_sub (w : World) (M B : Nat) (ar : Option Addr) (cr : Nat) (env s : List Int) (a b : Int) (h : Mc w M B ar cr env (s ++ [b] ++ [a])) (hs : s.length ≤ 900) (ha : Small a) (hb : Small b) :
    Calls Tryz.prog 89 #[.pointer (some ⟨M, 0, none⟩), .agg #[.int .i64 4, .int .i64 0]] w (DoPost w M B ar cr env s (a - b)) := by
  have hMw := h.lt
  have hE : Ext w (w.alloc (Obj.cells #[.int .i64 4, .int .i64 0] 75)) := (Ext.refl w).alloc (Nat.le_refl _) _
  have g := h.ext hE
  have hBM := h.new
  have HB := Lib.hid (hE.mono (by omega : B ≤ w.heap.size))
  clear hE h
  unfold Small at ha hb
  have hn2 : -2000000 ≤ a - b ∧ a - b ≤ 2000000 := by omega
  generalize hn : ((a - b) : Int) = n at *
  have Hn := Lib.hid hn
  clear hn
  have hmm := @run_makeMap Tryz.prog
  have ko : (w.alloc (Obj.cells #[.int .i64 4, .int .i64 0] 75)).cell? ⟨w.heap.size, 0, none⟩ = some (.int .i64 4) := by simp [go_sem]
  have hmf : ∀ (fn : Fn) (first cap : Array Value) (w : World), (Instr.makeFunc fn first cap).run Tryz.prog w = .ok (.func fn first cap) w := fun _ _ _ _ => rfl
  go_enter Tryz.func89, Tryz.ntmps89
  go_wp2_with fail
  refine (pop_any _ M B ar cr env (s ++ [b]) a g (by simp; omega)).mono ?_
  rintro e W1 ⟨rfl, h, hbb⟩
  have hE := HB.out.grown hbb (by simp; omega) (fun k hk => by cases hk; omega)
  have ko1 := hbb.cell ko (by simp; omega)
  have hW1 : w.heap.size < W1.heap.size := World.block_lt_of_cell? _ _ ko1
  clear HB hbb g ko
  have HB := Lib.hid hE
  have g := h
  clear hE h
  go_wp2_with fail
  refine (pop_any _ M B ar cr env s b g (by omega)).mono ?_
  rintro e W ⟨rfl, h, hbb⟩
  have hE := HB.out.grown hbb (by omega) (fun k hk => by cases hk; omega)
  have ko2 := hbb.cell ko1 (by simp; omega)
  have hW2 : w.heap.size < W.heap.size := World.block_lt_of_cell? _ _ ko2
  clear HB hbb g ko1
  have hMW := h.lt
  have hE2 : Ext W (((W.alloc (Obj.cells #[.int .i64 a] 3)).alloc (Obj.cells #[.int .i64 b] 3)).alloc (Obj.map #[] 0)) := ((((Ext.refl W).alloc (Nat.le_refl _) _).alloc (by simp) _).alloc (by simp; omega) _)
  have hm := MapI.new ((W.alloc (Obj.cells #[.int .i64 a] 3)).alloc (Obj.cells #[.int .i64 b] 3))
  have h5 : (((W.alloc (Obj.cells #[.int .i64 a] 3)).alloc (Obj.cells #[.int .i64 b] 3)).alloc (Obj.map #[] 0)).cell? ⟨W.heap.size, 0, none⟩ = some (.int .i64 a) := by simp [go_sem]
  have h6 : (((W.alloc (Obj.cells #[.int .i64 a] 3)).alloc (Obj.cells #[.int .i64 b] 3)).alloc (Obj.map #[] 0)).cell? ⟨W.heap.size + 1, 0, none⟩ = some (.int .i64 b) := by simp [go_sem]
  simp only [heap_alloc2] at hm
  have ko3 := cells_of (w := W) ko2 (hE2.block _ hW2)
  clear ko2
  have HB := Lib.hid hE
  have HG := Lib.hid h
  have HE2 := Lib.hid hE2
  clear hE h hE2
  have hsX : W.heap.size + 1 + 1 < (((W.alloc (Obj.cells #[.int .i64 a] 3)).alloc (Obj.cells #[.int .i64 b] 3)).alloc (Obj.map #[] 0)).heap.size := by simp
  go_wp2_with (refine wpl_insert rfl rfl Tryz.underlying192 Tryz.underlying3 hm rfl rfl rfl ?_)
  generalize ((W.alloc (Obj.cells #[.int .i64 a] 3)).alloc (Obj.cells #[.int .i64 b] 3)).alloc (Obj.map #[] 0) = X at *
  intro X1 m1 g1
  have G1 := Lib.hid g1
  clear g1 hm
  go_wp2_with (refine wpl_insert rfl rfl Tryz.underlying192 Tryz.underlying3 m1 rfl rfl rfl ?_)
  intro X2 m2 g2
  have G2 := Lib.hid (G1.out.trans' g2)
  clear g2 m1 G1
  go_wp2_with (refine wpl_insert rfl rfl Tryz.underlying192 Tryz.underlying3 m2 rfl rfl rfl ?_)
  intro X3 m3 g3
  have G3 := Lib.hid (G2.out.trans' g3)
  clear g3 m2 G2
  go_wp2_with (refine wpl_insert rfl rfl Tryz.underlying192 Tryz.underlying3 m3 rfl rfl rfl ?_)
  intro X4 m4 g4
  have G4 := Lib.hid (G3.out.trans' g4)
  clear g4 m3 G3
  go_wp2_with (refine wpl_insert rfl rfl Tryz.underlying192 Tryz.underlying3 m4 rfl rfl rfl ?_)
  intro X5 m5 g5
  have G5 := Lib.hid (G4.out.trans' g5)
  clear g5 m4 G4
  go_wp2_with (refine wpl_insert rfl rfl Tryz.underlying192 Tryz.underlying3 m5 rfl rfl rfl ?_)
  intro X6 m6 g6
  have G6 := Lib.hid (G5.out.trans' g6)
  clear g6 m5 G5
  go_wp2_with (refine wpl_insert rfl rfl Tryz.underlying192 Tryz.underlying3 m6 rfl rfl rfl ?_)
  intro X7 m7 g7
  have G7 := Lib.hid (G6.out.trans' g7)
  clear g7 m6 G6
  have ko4 := G7.out.cell ko3 (by simp; omega)
  clear ko3
  have k5 := G7.out.cell h5 (by simp; omega)
  have k6 := G7.out.cell h6 (by simp)
  clear h5 h6
  go_wp2_with (refine wpl_lookup rfl rfl Tryz.underlying192 Tryz.underlying3 m7 rfl rfl rfl ?_)
  clear m7
  go_wp2_with fail
  refine (clo_sub _ _ a b _ k5 k6 ha hb).mono ?_
  rintro e Y ⟨rfl, rfl⟩
  rw [Hn.out]
  have hEY := HE2.out.grown G7.out (by omega) (fun k hk => by cases hk; omega)
  have g := HG.out.ext hEY
  clear ko4
  have hE := Below.trans HB.out (hEY.mono (by omega))
  clear HB HE2 hEY HG G7 k5 k6
  have HB := Lib.hid hE
  clear hE
  obtain ⟨ao, co, c0, h6, h7⟩ := g.c0
  have gz := g.fz 0
  have G := Lib.hid g
  have H6 := Lib.hid h6
  have H7 := Lib.hid h7
  have hM := g.lt
  have h6a := h6.alloc (Obj.cells #[.int .i64 n] 3)
  clear g h6 h7
  go_wp2_with (at_builtin; go_must (refine wpl_append rfl rfl Tryz.slInts B rfl h6a rfl (Row.oneAt _ _ _ _ (by simp)) (by simp [Value.oneCell']) (by unfold maxLen; omega) (by omega) (by simp; omega) ?_))
  all_goals first
    | exact ⟨rfl, do_over _ _ _ _ _ _ _ _ _ HB.out (by unfold Small; omega)⟩
    | (intro v1 w1 hown hg hb _
       obtain ⟨a1, d1, rfl, hr1⟩ := hown.row
       have hsm : Small n := by unfold Small; omega
       obtain ⟨hc, hz, hP⟩ := do_tail w _ w1 M B _ cr env s n ao a1 co d1 _ G.out HB.out hsm c0 H6.out H7.out hown hg hb (by omega)
       have HP := Lib.hid hP
       clear hown hg hb hr1 c0 gz h6a hP
       go_wp2
       go_end0
       exact HP.out)

set_option maxRecDepth 100000 in
set_option maxHeartbeats 2000000 in
theorem do_mul (w : World) (M B : Nat) (ar : Option Addr) (cr : Nat) (env s : List Int) (a b : Int) (h : Mc w M B ar cr env (s ++ [b] ++ [a])) (hs : s.length ≤ 900) (ha : Small a) (hb : Small b) :
    Calls Tryz.prog 89 #[.pointer (some ⟨M, 0, none⟩), .agg #[.int .i64 5, .int .i64 0]] w (DoPost w M B ar cr env s (a * b)) := by
  have hMw := h.lt
  have hE : Ext w (w.alloc (Obj.cells #[.int .i64 5, .int .i64 0] 75)) := (Ext.refl w).alloc (Nat.le_refl _) _
  have g := h.ext hE
  have hBM := h.new
  have HB := Lib.hid (hE.mono (by omega : B ≤ w.heap.size))
  clear hE h
  unfold Small at ha hb
  have hn2 : -1000000000000 ≤ a * b ∧ a * b ≤ 1000000000000 := by
    have h2 : (a * b).natAbs ≤ 1000000 * 1000000 := by rw [Int.natAbs_mul]; exact Nat.mul_le_mul (by omega) (by omega)
    omega
  generalize hn : ((a * b) : Int) = n at *
  have Hn := Lib.hid hn
  clear hn
  have hmm := @run_makeMap Tryz.prog
  have ko : (w.alloc (Obj.cells #[.int .i64 5, .int .i64 0] 75)).cell? ⟨w.heap.size, 0, none⟩ = some (.int .i64 5) := by simp [go_sem]
  have hmf : ∀ (fn : Fn) (first cap : Array Value) (w : World), (Instr.makeFunc fn first cap).run Tryz.prog w = .ok (.func fn first cap) w := fun _ _ _ _ => rfl
  go_enter Tryz.func89, Tryz.ntmps89
  go_wp2_with fail
  refine (pop_any _ M B ar cr env (s ++ [b]) a g (by simp; omega)).mono ?_
  rintro e W1 ⟨rfl, h, hbb⟩
  have hE := HB.out.grown hbb (by simp; omega) (fun k hk => by cases hk; omega)
  have ko1 := hbb.cell ko (by simp; omega)
  have hW1 : w.heap.size < W1.heap.size := World.block_lt_of_cell? _ _ ko1
  clear HB hbb g ko
  have HB := Lib.hid hE
  have g := h
  clear hE h
  go_wp2_with fail
  refine (pop_any _ M B ar cr env s b g (by omega)).mono ?_
  rintro e W ⟨rfl, h, hbb⟩
  have hE := HB.out.grown hbb (by omega) (fun k hk => by cases hk; omega)
  have ko2 := hbb.cell ko1 (by simp; omega)
  have hW2 : w.heap.size < W.heap.size := World.block_lt_of_cell? _ _ ko2
  clear HB hbb g ko1
  have hMW := h.lt
  have hE2 : Ext W (((W.alloc (Obj.cells #[.int .i64 a] 3)).alloc (Obj.cells #[.int .i64 b] 3)).alloc (Obj.map #[] 0)) := ((((Ext.refl W).alloc (Nat.le_refl _) _).alloc (by simp) _).alloc (by simp; omega) _)
  have hm := MapI.new ((W.alloc (Obj.cells #[.int .i64 a] 3)).alloc (Obj.cells #[.int .i64 b] 3))
  have h5 : (((W.alloc (Obj.cells #[.int .i64 a] 3)).alloc (Obj.cells #[.int .i64 b] 3)).alloc (Obj.map #[] 0)).cell? ⟨W.heap.size, 0, none⟩ = some (.int .i64 a) := by simp [go_sem]
  have h6 : (((W.alloc (Obj.cells #[.int .i64 a] 3)).alloc (Obj.cells #[.int .i64 b] 3)).alloc (Obj.map #[] 0)).cell? ⟨W.heap.size + 1, 0, none⟩ = some (.int .i64 b) := by simp [go_sem]
  simp only [heap_alloc2] at hm
  have ko3 := cells_of (w := W) ko2 (hE2.block _ hW2)
  clear ko2
  have HB := Lib.hid hE
  have HG := Lib.hid h
  have HE2 := Lib.hid hE2
  clear hE h hE2
  have hsX : W.heap.size + 1 + 1 < (((W.alloc (Obj.cells #[.int .i64 a] 3)).alloc (Obj.cells #[.int .i64 b] 3)).alloc (Obj.map #[] 0)).heap.size := by simp
  go_wp2_with (refine wpl_insert rfl rfl Tryz.underlying192 Tryz.underlying3 hm rfl rfl rfl ?_)
  generalize ((W.alloc (Obj.cells #[.int .i64 a] 3)).alloc (Obj.cells #[.int .i64 b] 3)).alloc (Obj.map #[] 0) = X at *
  intro X1 m1 g1
  have G1 := Lib.hid g1
  clear g1 hm
  go_wp2_with (refine wpl_insert rfl rfl Tryz.underlying192 Tryz.underlying3 m1 rfl rfl rfl ?_)
  intro X2 m2 g2
  have G2 := Lib.hid (G1.out.trans' g2)
  clear g2 m1 G1
  go_wp2_with (refine wpl_insert rfl rfl Tryz.underlying192 Tryz.underlying3 m2 rfl rfl rfl ?_)
  intro X3 m3 g3
  have G3 := Lib.hid (G2.out.trans' g3)
  clear g3 m2 G2
  go_wp2_with (refine wpl_insert rfl rfl Tryz.underlying192 Tryz.underlying3 m3 rfl rfl rfl ?_)
  intro X4 m4 g4
  have G4 := Lib.hid (G3.out.trans' g4)
  clear g4 m3 G3
  go_wp2_with (refine wpl_insert rfl rfl Tryz.underlying192 Tryz.underlying3 m4 rfl rfl rfl ?_)
  intro X5 m5 g5
  have G5 := Lib.hid (G4.out.trans' g5)
  clear g5 m4 G4
  go_wp2_with (refine wpl_insert rfl rfl Tryz.underlying192 Tryz.underlying3 m5 rfl rfl rfl ?_)
  intro X6 m6 g6
  have G6 := Lib.hid (G5.out.trans' g6)
  clear g6 m5 G5
  go_wp2_with (refine wpl_insert rfl rfl Tryz.underlying192 Tryz.underlying3 m6 rfl rfl rfl ?_)
  intro X7 m7 g7
  have G7 := Lib.hid (G6.out.trans' g7)
  clear g7 m6 G6
  have ko4 := G7.out.cell ko3 (by simp; omega)
  clear ko3
  have k5 := G7.out.cell h5 (by simp; omega)
  have k6 := G7.out.cell h6 (by simp)
  clear h5 h6
  go_wp2_with (refine wpl_lookup rfl rfl Tryz.underlying192 Tryz.underlying3 m7 rfl rfl rfl ?_)
  clear m7
  go_wp2_with fail
  refine (clo_mul _ _ a b _ k5 k6 ha hb).mono ?_
  rintro e Y ⟨rfl, rfl⟩
  rw [Hn.out]
  have hEY := HE2.out.grown G7.out (by omega) (fun k hk => by cases hk; omega)
  have g := HG.out.ext hEY
  clear ko4
  have hE := Below.trans HB.out (hEY.mono (by omega))
  clear HB HE2 hEY HG G7 k5 k6
  have HB := Lib.hid hE
  clear hE
  obtain ⟨ao, co, c0, h6, h7⟩ := g.c0
  have gz := g.fz 0
  have G := Lib.hid g
  have H6 := Lib.hid h6
  have H7 := Lib.hid h7
  have hM := g.lt
  have h6a := h6.alloc (Obj.cells #[.int .i64 n] 3)
  clear g h6 h7
  go_wp2_with (at_builtin; go_must (refine wpl_append rfl rfl Tryz.slInts B rfl h6a rfl (Row.oneAt _ _ _ _ (by simp)) (by simp [Value.oneCell']) (by unfold maxLen; omega) (by omega) (by simp; omega) ?_))
  all_goals first
    | exact ⟨rfl, do_over _ _ _ _ _ _ _ _ _ HB.out (by unfold Small; omega)⟩
    | (intro v1 w1 hown hg hb _
       obtain ⟨a1, d1, rfl, hr1⟩ := hown.row
       have hsm : Small n := by unfold Small; omega
       obtain ⟨hc, hz, hP⟩ := do_tail w _ w1 M B _ cr env s n ao a1 co d1 _ G.out HB.out hsm c0 H6.out H7.out hown hg hb (by omega)
       have HP := Lib.hid hP
       clear hown hg hb hr1 c0 gz h6a hP
       go_wp2
       go_end0
       exact HP.out)

set_option maxRecDepth 100000 in
set_option maxHeartbeats 2000000 in
theorem do_eq (w : World) (M B : Nat) (ar : Option Addr) (cr : Nat) (env s : List Int) (a b : Int) (h : Mc w M B ar cr env (s ++ [b] ++ [a])) (hs : s.length ≤ 900)  :
    Calls Tryz.prog 89 #[.pointer (some ⟨M, 0, none⟩), .agg #[.int .i64 6, .int .i64 0]] w (DoPost w M B ar cr env s (if a = b then 1 else 0)) := by
  have hMw := h.lt
  have hE : Ext w (w.alloc (Obj.cells #[.int .i64 6, .int .i64 0] 75)) := (Ext.refl w).alloc (Nat.le_refl _) _
  have g := h.ext hE
  have hBM := h.new
  have HB := Lib.hid (hE.mono (by omega : B ≤ w.heap.size))
  clear hE h
  have hn2 : 0 ≤ (if a = b then 1 else 0 : Int) ∧ (if a = b then 1 else 0 : Int) ≤ 1 := by split <;> omega
  generalize hn : ((if a = b then 1 else 0) : Int) = n at *
  have Hn := Lib.hid hn
  clear hn
  have hmm := @run_makeMap Tryz.prog
  have ko : (w.alloc (Obj.cells #[.int .i64 6, .int .i64 0] 75)).cell? ⟨w.heap.size, 0, none⟩ = some (.int .i64 6) := by simp [go_sem]
  have hmf : ∀ (fn : Fn) (first cap : Array Value) (w : World), (Instr.makeFunc fn first cap).run Tryz.prog w = .ok (.func fn first cap) w := fun _ _ _ _ => rfl
  go_enter Tryz.func89, Tryz.ntmps89
  go_wp2_with fail
  refine (pop_any _ M B ar cr env (s ++ [b]) a g (by simp; omega)).mono ?_
  rintro e W1 ⟨rfl, h, hbb⟩
  have hE := HB.out.grown hbb (by simp; omega) (fun k hk => by cases hk; omega)
  have ko1 := hbb.cell ko (by simp; omega)
  have hW1 : w.heap.size < W1.heap.size := World.block_lt_of_cell? _ _ ko1
  clear HB hbb g ko
  have HB := Lib.hid hE
  have g := h
  clear hE h
  go_wp2_with fail
  refine (pop_any _ M B ar cr env s b g (by omega)).mono ?_
  rintro e W ⟨rfl, h, hbb⟩
  have hE := HB.out.grown hbb (by omega) (fun k hk => by cases hk; omega)
  have ko2 := hbb.cell ko1 (by simp; omega)
  have hW2 : w.heap.size < W.heap.size := World.block_lt_of_cell? _ _ ko2
  clear HB hbb g ko1
  have hMW := h.lt
  have hE2 : Ext W (((W.alloc (Obj.cells #[.int .i64 a] 3)).alloc (Obj.cells #[.int .i64 b] 3)).alloc (Obj.map #[] 0)) := ((((Ext.refl W).alloc (Nat.le_refl _) _).alloc (by simp) _).alloc (by simp; omega) _)
  have hm := MapI.new ((W.alloc (Obj.cells #[.int .i64 a] 3)).alloc (Obj.cells #[.int .i64 b] 3))
  have h5 : (((W.alloc (Obj.cells #[.int .i64 a] 3)).alloc (Obj.cells #[.int .i64 b] 3)).alloc (Obj.map #[] 0)).cell? ⟨W.heap.size, 0, none⟩ = some (.int .i64 a) := by simp [go_sem]
  have h6 : (((W.alloc (Obj.cells #[.int .i64 a] 3)).alloc (Obj.cells #[.int .i64 b] 3)).alloc (Obj.map #[] 0)).cell? ⟨W.heap.size + 1, 0, none⟩ = some (.int .i64 b) := by simp [go_sem]
  simp only [heap_alloc2] at hm
  have ko3 := cells_of (w := W) ko2 (hE2.block _ hW2)
  clear ko2
  have HB := Lib.hid hE
  have HG := Lib.hid h
  have HE2 := Lib.hid hE2
  clear hE h hE2
  have hsX : W.heap.size + 1 + 1 < (((W.alloc (Obj.cells #[.int .i64 a] 3)).alloc (Obj.cells #[.int .i64 b] 3)).alloc (Obj.map #[] 0)).heap.size := by simp
  go_wp2_with (refine wpl_insert rfl rfl Tryz.underlying192 Tryz.underlying3 hm rfl rfl rfl ?_)
  generalize ((W.alloc (Obj.cells #[.int .i64 a] 3)).alloc (Obj.cells #[.int .i64 b] 3)).alloc (Obj.map #[] 0) = X at *
  intro X1 m1 g1
  have G1 := Lib.hid g1
  clear g1 hm
  go_wp2_with (refine wpl_insert rfl rfl Tryz.underlying192 Tryz.underlying3 m1 rfl rfl rfl ?_)
  intro X2 m2 g2
  have G2 := Lib.hid (G1.out.trans' g2)
  clear g2 m1 G1
  go_wp2_with (refine wpl_insert rfl rfl Tryz.underlying192 Tryz.underlying3 m2 rfl rfl rfl ?_)
  intro X3 m3 g3
  have G3 := Lib.hid (G2.out.trans' g3)
  clear g3 m2 G2
  go_wp2_with (refine wpl_insert rfl rfl Tryz.underlying192 Tryz.underlying3 m3 rfl rfl rfl ?_)
  intro X4 m4 g4
  have G4 := Lib.hid (G3.out.trans' g4)
  clear g4 m3 G3
  go_wp2_with (refine wpl_insert rfl rfl Tryz.underlying192 Tryz.underlying3 m4 rfl rfl rfl ?_)
  intro X5 m5 g5
  have G5 := Lib.hid (G4.out.trans' g5)
  clear g5 m4 G4
  go_wp2_with (refine wpl_insert rfl rfl Tryz.underlying192 Tryz.underlying3 m5 rfl rfl rfl ?_)
  intro X6 m6 g6
  have G6 := Lib.hid (G5.out.trans' g6)
  clear g6 m5 G5
  go_wp2_with (refine wpl_insert rfl rfl Tryz.underlying192 Tryz.underlying3 m6 rfl rfl rfl ?_)
  intro X7 m7 g7
  have G7 := Lib.hid (G6.out.trans' g7)
  clear g7 m6 G6
  have ko4 := G7.out.cell ko3 (by simp; omega)
  clear ko3
  have k5 := G7.out.cell h5 (by simp; omega)
  have k6 := G7.out.cell h6 (by simp)
  clear h5 h6
  go_wp2_with (refine wpl_lookup rfl rfl Tryz.underlying192 Tryz.underlying3 m7 rfl rfl rfl ?_)
  clear m7
  go_wp2_with fail
  refine (clo_eq _ _ a b _ k5 k6).mono ?_
  rintro e Y ⟨rfl, rfl⟩
  rw [Hn.out]
  have hEY := HE2.out.grown G7.out (by omega) (fun k hk => by cases hk; omega)
  have g := HG.out.ext hEY
  clear ko4
  have hE := Below.trans HB.out (hEY.mono (by omega))
  clear HB HE2 hEY HG G7 k5 k6
  have HB := Lib.hid hE
  clear hE
  obtain ⟨ao, co, c0, h6, h7⟩ := g.c0
  have gz := g.fz 0
  have G := Lib.hid g
  have H6 := Lib.hid h6
  have H7 := Lib.hid h7
  have hM := g.lt
  have h6a := h6.alloc (Obj.cells #[.int .i64 n] 3)
  clear g h6 h7
  go_wp2_with (at_builtin; go_must (refine wpl_append rfl rfl Tryz.slInts B rfl h6a rfl (Row.oneAt _ _ _ _ (by simp)) (by simp [Value.oneCell']) (by unfold maxLen; omega) (by omega) (by simp; omega) ?_))
  all_goals first
    | exact ⟨rfl, do_over _ _ _ _ _ _ _ _ _ HB.out (by unfold Small; omega)⟩
    | (intro v1 w1 hown hg hb _
       obtain ⟨a1, d1, rfl, hr1⟩ := hown.row
       have hsm : Small n := by unfold Small; omega
       obtain ⟨hc, hz, hP⟩ := do_tail w _ w1 M B _ cr env s n ao a1 co d1 _ G.out HB.out hsm c0 H6.out H7.out hown hg hb (by omega)
       have HP := Lib.hid hP
       clear hown hg hb hr1 c0 gz h6a hP
       go_wp2
       go_end0
       exact HP.out)

set_option maxRecDepth 100000 in
set_option maxHeartbeats 2000000 in
theorem do_lt (w : World) (M B : Nat) (ar : Option Addr) (cr : Nat) (env s : List Int) (a b : Int) (h : Mc w M B ar cr env (s ++ [b] ++ [a])) (hs : s.length ≤ 900)  :
    Calls Tryz.prog 89 #[.pointer (some ⟨M, 0, none⟩), .agg #[.int .i64 7, .int .i64 0]] w (DoPost w M B ar cr env s (if a < b then 1 else 0)) := by
  have hMw := h.lt
  have hE : Ext w (w.alloc (Obj.cells #[.int .i64 7, .int .i64 0] 75)) := (Ext.refl w).alloc (Nat.le_refl _) _
  have g := h.ext hE
  have hBM := h.new
  have HB := Lib.hid (hE.mono (by omega : B ≤ w.heap.size))
  clear hE h
  have hn2 : 0 ≤ (if a < b then 1 else 0 : Int) ∧ (if a < b then 1 else 0 : Int) ≤ 1 := by split <;> omega
  generalize hn : ((if a < b then 1 else 0) : Int) = n at *
  have Hn := Lib.hid hn
  clear hn
  have hmm := @run_makeMap Tryz.prog
  have ko : (w.alloc (Obj.cells #[.int .i64 7, .int .i64 0] 75)).cell? ⟨w.heap.size, 0, none⟩ = some (.int .i64 7) := by simp [go_sem]
  have hmf : ∀ (fn : Fn) (first cap : Array Value) (w : World), (Instr.makeFunc fn first cap).run Tryz.prog w = .ok (.func fn first cap) w := fun _ _ _ _ => rfl
  go_enter Tryz.func89, Tryz.ntmps89
  go_wp2_with fail
  refine (pop_any _ M B ar cr env (s ++ [b]) a g (by simp; omega)).mono ?_
  rintro e W1 ⟨rfl, h, hbb⟩
  have hE := HB.out.grown hbb (by simp; omega) (fun k hk => by cases hk; omega)
  have ko1 := hbb.cell ko (by simp; omega)
  have hW1 : w.heap.size < W1.heap.size := World.block_lt_of_cell? _ _ ko1
  clear HB hbb g ko
  have HB := Lib.hid hE
  have g := h
  clear hE h
  go_wp2_with fail
  refine (pop_any _ M B ar cr env s b g (by omega)).mono ?_
  rintro e W ⟨rfl, h, hbb⟩
  have hE := HB.out.grown hbb (by omega) (fun k hk => by cases hk; omega)
  have ko2 := hbb.cell ko1 (by simp; omega)
  have hW2 : w.heap.size < W.heap.size := World.block_lt_of_cell? _ _ ko2
  clear HB hbb g ko1
  have hMW := h.lt
  have hE2 : Ext W (((W.alloc (Obj.cells #[.int .i64 a] 3)).alloc (Obj.cells #[.int .i64 b] 3)).alloc (Obj.map #[] 0)) := ((((Ext.refl W).alloc (Nat.le_refl _) _).alloc (by simp) _).alloc (by simp; omega) _)
  have hm := MapI.new ((W.alloc (Obj.cells #[.int .i64 a] 3)).alloc (Obj.cells #[.int .i64 b] 3))
  have h5 : (((W.alloc (Obj.cells #[.int .i64 a] 3)).alloc (Obj.cells #[.int .i64 b] 3)).alloc (Obj.map #[] 0)).cell? ⟨W.heap.size, 0, none⟩ = some (.int .i64 a) := by simp [go_sem]
  have h6 : (((W.alloc (Obj.cells #[.int .i64 a] 3)).alloc (Obj.cells #[.int .i64 b] 3)).alloc (Obj.map #[] 0)).cell? ⟨W.heap.size + 1, 0, none⟩ = some (.int .i64 b) := by simp [go_sem]
  simp only [heap_alloc2] at hm
  have ko3 := cells_of (w := W) ko2 (hE2.block _ hW2)
  clear ko2
  have HB := Lib.hid hE
  have HG := Lib.hid h
  have HE2 := Lib.hid hE2
  clear hE h hE2
  have hsX : W.heap.size + 1 + 1 < (((W.alloc (Obj.cells #[.int .i64 a] 3)).alloc (Obj.cells #[.int .i64 b] 3)).alloc (Obj.map #[] 0)).heap.size := by simp
  go_wp2_with (refine wpl_insert rfl rfl Tryz.underlying192 Tryz.underlying3 hm rfl rfl rfl ?_)
  generalize ((W.alloc (Obj.cells #[.int .i64 a] 3)).alloc (Obj.cells #[.int .i64 b] 3)).alloc (Obj.map #[] 0) = X at *
  intro X1 m1 g1
  have G1 := Lib.hid g1
  clear g1 hm
  go_wp2_with (refine wpl_insert rfl rfl Tryz.underlying192 Tryz.underlying3 m1 rfl rfl rfl ?_)
  intro X2 m2 g2
  have G2 := Lib.hid (G1.out.trans' g2)
  clear g2 m1 G1
  go_wp2_with (refine wpl_insert rfl rfl Tryz.underlying192 Tryz.underlying3 m2 rfl rfl rfl ?_)
  intro X3 m3 g3
  have G3 := Lib.hid (G2.out.trans' g3)
  clear g3 m2 G2
  go_wp2_with (refine wpl_insert rfl rfl Tryz.underlying192 Tryz.underlying3 m3 rfl rfl rfl ?_)
  intro X4 m4 g4
  have G4 := Lib.hid (G3.out.trans' g4)
  clear g4 m3 G3
  go_wp2_with (refine wpl_insert rfl rfl Tryz.underlying192 Tryz.underlying3 m4 rfl rfl rfl ?_)
  intro X5 m5 g5
  have G5 := Lib.hid (G4.out.trans' g5)
  clear g5 m4 G4
  go_wp2_with (refine wpl_insert rfl rfl Tryz.underlying192 Tryz.underlying3 m5 rfl rfl rfl ?_)
  intro X6 m6 g6
  have G6 := Lib.hid (G5.out.trans' g6)
  clear g6 m5 G5
  go_wp2_with (refine wpl_insert rfl rfl Tryz.underlying192 Tryz.underlying3 m6 rfl rfl rfl ?_)
  intro X7 m7 g7
  have G7 := Lib.hid (G6.out.trans' g7)
  clear g7 m6 G6
  have ko4 := G7.out.cell ko3 (by simp; omega)
  clear ko3
  have k5 := G7.out.cell h5 (by simp; omega)
  have k6 := G7.out.cell h6 (by simp)
  clear h5 h6
  go_wp2_with (refine wpl_lookup rfl rfl Tryz.underlying192 Tryz.underlying3 m7 rfl rfl rfl ?_)
  clear m7
  go_wp2_with fail
  refine (clo_lt _ _ a b _ k5 k6).mono ?_
  rintro e Y ⟨rfl, rfl⟩
  rw [Hn.out]
  have hEY := HE2.out.grown G7.out (by omega) (fun k hk => by cases hk; omega)
  have g := HG.out.ext hEY
  clear ko4
  have hE := Below.trans HB.out (hEY.mono (by omega))
  clear HB HE2 hEY HG G7 k5 k6
  have HB := Lib.hid hE
  clear hE
  obtain ⟨ao, co, c0, h6, h7⟩ := g.c0
  have gz := g.fz 0
  have G := Lib.hid g
  have H6 := Lib.hid h6
  have H7 := Lib.hid h7
  have hM := g.lt
  have h6a := h6.alloc (Obj.cells #[.int .i64 n] 3)
  clear g h6 h7
  go_wp2_with (at_builtin; go_must (refine wpl_append rfl rfl Tryz.slInts B rfl h6a rfl (Row.oneAt _ _ _ _ (by simp)) (by simp [Value.oneCell']) (by unfold maxLen; omega) (by omega) (by simp; omega) ?_))
  all_goals first
    | exact ⟨rfl, do_over _ _ _ _ _ _ _ _ _ HB.out (by unfold Small; omega)⟩
    | (intro v1 w1 hown hg hb _
       obtain ⟨a1, d1, rfl, hr1⟩ := hown.row
       have hsm : Small n := by unfold Small; omega
       obtain ⟨hc, hz, hP⟩ := do_tail w _ w1 M B _ cr env s n ao a1 co d1 _ G.out HB.out hsm c0 H6.out H7.out hown hg hb (by omega)
       have HP := Lib.hid hP
       clear hown hg hb hr1 c0 gz h6a hP
       go_wp2
       go_end0
       exact HP.out)

set_option maxRecDepth 100000 in
set_option maxHeartbeats 2000000 in
theorem do_and (w : World) (M B : Nat) (ar : Option Addr) (cr : Nat) (env s : List Int) (a b : Int) (h : Mc w M B ar cr env (s ++ [b] ++ [a])) (hs : s.length ≤ 900) (ha : a = 0 ∨ a = 1) (hb : b = 0 ∨ b = 1) :
    Calls Tryz.prog 89 #[.pointer (some ⟨M, 0, none⟩), .agg #[.int .i64 8, .int .i64 0]] w (DoPost w M B ar cr env s (if a = 1 ∧ b = 1 then 1 else 0)) := by
  have hMw := h.lt
  have hE : Ext w (w.alloc (Obj.cells #[.int .i64 8, .int .i64 0] 75)) := (Ext.refl w).alloc (Nat.le_refl _) _
  have g := h.ext hE
  have hBM := h.new
  have HB := Lib.hid (hE.mono (by omega : B ≤ w.heap.size))
  clear hE h
  have hn2 : 0 ≤ (if a = 1 ∧ b = 1 then 1 else 0 : Int) ∧ (if a = 1 ∧ b = 1 then 1 else 0 : Int) ≤ 1 := by split <;> omega
  generalize hn : ((if a = 1 ∧ b = 1 then 1 else 0) : Int) = n at *
  have Hn := Lib.hid hn
  clear hn
  have hmm := @run_makeMap Tryz.prog
  have ko : (w.alloc (Obj.cells #[.int .i64 8, .int .i64 0] 75)).cell? ⟨w.heap.size, 0, none⟩ = some (.int .i64 8) := by simp [go_sem]
  have hmf : ∀ (fn : Fn) (first cap : Array Value) (w : World), (Instr.makeFunc fn first cap).run Tryz.prog w = .ok (.func fn first cap) w := fun _ _ _ _ => rfl
  go_enter Tryz.func89, Tryz.ntmps89
  go_wp2_with fail
  refine (pop_any _ M B ar cr env (s ++ [b]) a g (by simp; omega)).mono ?_
  rintro e W1 ⟨rfl, h, hbb⟩
  have hE := HB.out.grown hbb (by simp; omega) (fun k hk => by cases hk; omega)
  have ko1 := hbb.cell ko (by simp; omega)
  have hW1 : w.heap.size < W1.heap.size := World.block_lt_of_cell? _ _ ko1
  clear HB hbb g ko
  have HB := Lib.hid hE
  have g := h
  clear hE h
  go_wp2_with fail
  refine (pop_any _ M B ar cr env s b g (by omega)).mono ?_
  rintro e W ⟨rfl, h, hbb⟩
  have hE := HB.out.grown hbb (by omega) (fun k hk => by cases hk; omega)
  have ko2 := hbb.cell ko1 (by simp; omega)
  have hW2 : w.heap.size < W.heap.size := World.block_lt_of_cell? _ _ ko2
  clear HB hbb g ko1
  have hMW := h.lt
  have hE2 : Ext W (((W.alloc (Obj.cells #[.int .i64 a] 3)).alloc (Obj.cells #[.int .i64 b] 3)).alloc (Obj.map #[] 0)) := ((((Ext.refl W).alloc (Nat.le_refl _) _).alloc (by simp) _).alloc (by simp; omega) _)
  have hm := MapI.new ((W.alloc (Obj.cells #[.int .i64 a] 3)).alloc (Obj.cells #[.int .i64 b] 3))
  have h5 : (((W.alloc (Obj.cells #[.int .i64 a] 3)).alloc (Obj.cells #[.int .i64 b] 3)).alloc (Obj.map #[] 0)).cell? ⟨W.heap.size, 0, none⟩ = some (.int .i64 a) := by simp [go_sem]
  have h6 : (((W.alloc (Obj.cells #[.int .i64 a] 3)).alloc (Obj.cells #[.int .i64 b] 3)).alloc (Obj.map #[] 0)).cell? ⟨W.heap.size + 1, 0, none⟩ = some (.int .i64 b) := by simp [go_sem]
  simp only [heap_alloc2] at hm
  have ko3 := cells_of (w := W) ko2 (hE2.block _ hW2)
  clear ko2
  have HB := Lib.hid hE
  have HG := Lib.hid h
  have HE2 := Lib.hid hE2
  clear hE h hE2
  have hsX : W.heap.size + 1 + 1 < (((W.alloc (Obj.cells #[.int .i64 a] 3)).alloc (Obj.cells #[.int .i64 b] 3)).alloc (Obj.map #[] 0)).heap.size := by simp
  go_wp2_with (refine wpl_insert rfl rfl Tryz.underlying192 Tryz.underlying3 hm rfl rfl rfl ?_)
  generalize ((W.alloc (Obj.cells #[.int .i64 a] 3)).alloc (Obj.cells #[.int .i64 b] 3)).alloc (Obj.map #[] 0) = X at *
  intro X1 m1 g1
  have G1 := Lib.hid g1
  clear g1 hm
  go_wp2_with (refine wpl_insert rfl rfl Tryz.underlying192 Tryz.underlying3 m1 rfl rfl rfl ?_)
  intro X2 m2 g2
  have G2 := Lib.hid (G1.out.trans' g2)
  clear g2 m1 G1
  go_wp2_with (refine wpl_insert rfl rfl Tryz.underlying192 Tryz.underlying3 m2 rfl rfl rfl ?_)
  intro X3 m3 g3
  have G3 := Lib.hid (G2.out.trans' g3)
  clear g3 m2 G2
  go_wp2_with (refine wpl_insert rfl rfl Tryz.underlying192 Tryz.underlying3 m3 rfl rfl rfl ?_)
  intro X4 m4 g4
  have G4 := Lib.hid (G3.out.trans' g4)
  clear g4 m3 G3
  go_wp2_with (refine wpl_insert rfl rfl Tryz.underlying192 Tryz.underlying3 m4 rfl rfl rfl ?_)
  intro X5 m5 g5
  have G5 := Lib.hid (G4.out.trans' g5)
  clear g5 m4 G4
  go_wp2_with (refine wpl_insert rfl rfl Tryz.underlying192 Tryz.underlying3 m5 rfl rfl rfl ?_)
  intro X6 m6 g6
  have G6 := Lib.hid (G5.out.trans' g6)
  clear g6 m5 G5
  go_wp2_with (refine wpl_insert rfl rfl Tryz.underlying192 Tryz.underlying3 m6 rfl rfl rfl ?_)
  intro X7 m7 g7
  have G7 := Lib.hid (G6.out.trans' g7)
  clear g7 m6 G6
  have ko4 := G7.out.cell ko3 (by simp; omega)
  clear ko3
  have k5 := G7.out.cell h5 (by simp; omega)
  have k6 := G7.out.cell h6 (by simp)
  clear h5 h6
  go_wp2_with (refine wpl_lookup rfl rfl Tryz.underlying192 Tryz.underlying3 m7 rfl rfl rfl ?_)
  clear m7
  go_wp2_with fail
  refine (clo_and _ _ a b _ k5 k6 ha hb).mono ?_
  rintro e Y ⟨rfl, rfl⟩
  rw [Hn.out]
  have hEY := HE2.out.grown G7.out (by omega) (fun k hk => by cases hk; omega)
  have g := HG.out.ext hEY
  clear ko4
  have hE := Below.trans HB.out (hEY.mono (by omega))
  clear HB HE2 hEY HG G7 k5 k6
  have HB := Lib.hid hE
  clear hE
  obtain ⟨ao, co, c0, h6, h7⟩ := g.c0
  have gz := g.fz 0
  have G := Lib.hid g
  have H6 := Lib.hid h6
  have H7 := Lib.hid h7
  have hM := g.lt
  have h6a := h6.alloc (Obj.cells #[.int .i64 n] 3)
  clear g h6 h7
  go_wp2_with (at_builtin; go_must (refine wpl_append rfl rfl Tryz.slInts B rfl h6a rfl (Row.oneAt _ _ _ _ (by simp)) (by simp [Value.oneCell']) (by unfold maxLen; omega) (by omega) (by simp; omega) ?_))
  all_goals first
    | exact ⟨rfl, do_over _ _ _ _ _ _ _ _ _ HB.out (by unfold Small; omega)⟩
    | (intro v1 w1 hown hg hb _
       obtain ⟨a1, d1, rfl, hr1⟩ := hown.row
       have hsm : Small n := by unfold Small; omega
       obtain ⟨hc, hz, hP⟩ := do_tail w _ w1 M B _ cr env s n ao a1 co d1 _ G.out HB.out hsm c0 H6.out H7.out hown hg hb (by omega)
       have HP := Lib.hid hP
       clear hown hg hb hr1 c0 gz h6a hP
       go_wp2
       go_end0
       exact HP.out)

set_option maxRecDepth 100000 in
set_option maxHeartbeats 2000000 in
theorem do_or (w : World) (M B : Nat) (ar : Option Addr) (cr : Nat) (env s : List Int) (a b : Int) (h : Mc w M B ar cr env (s ++ [b] ++ [a])) (hs : s.length ≤ 900) (ha : a = 0 ∨ a = 1) (hb : b = 0 ∨ b = 1) :
    Calls Tryz.prog 89 #[.pointer (some ⟨M, 0, none⟩), .agg #[.int .i64 9, .int .i64 0]] w (DoPost w M B ar cr env s (if a = 1 ∨ b = 1 then 1 else 0)) := by
  have hMw := h.lt
  have hE : Ext w (w.alloc (Obj.cells #[.int .i64 9, .int .i64 0] 75)) := (Ext.refl w).alloc (Nat.le_refl _) _
  have g := h.ext hE
  have hBM := h.new
  have HB := Lib.hid (hE.mono (by omega : B ≤ w.heap.size))
  clear hE h
  have hn2 : 0 ≤ (if a = 1 ∨ b = 1 then 1 else 0 : Int) ∧ (if a = 1 ∨ b = 1 then 1 else 0 : Int) ≤ 1 := by split <;> omega
  generalize hn : ((if a = 1 ∨ b = 1 then 1 else 0) : Int) = n at *
  have Hn := Lib.hid hn
  clear hn
  have hmm := @run_makeMap Tryz.prog
  have ko : (w.alloc (Obj.cells #[.int .i64 9, .int .i64 0] 75)).cell? ⟨w.heap.size, 0, none⟩ = some (.int .i64 9) := by simp [go_sem]
  have hmf : ∀ (fn : Fn) (first cap : Array Value) (w : World), (Instr.makeFunc fn first cap).run Tryz.prog w = .ok (.func fn first cap) w := fun _ _ _ _ => rfl
  go_enter Tryz.func89, Tryz.ntmps89
  go_wp2_with fail
  refine (pop_any _ M B ar cr env (s ++ [b]) a g (by simp; omega)).mono ?_
  rintro e W1 ⟨rfl, h, hbb⟩
  have hE := HB.out.grown hbb (by simp; omega) (fun k hk => by cases hk; omega)
  have ko1 := hbb.cell ko (by simp; omega)
  have hW1 : w.heap.size < W1.heap.size := World.block_lt_of_cell? _ _ ko1
  clear HB hbb g ko
  have HB := Lib.hid hE
  have g := h
  clear hE h
  go_wp2_with fail
  refine (pop_any _ M B ar cr env s b g (by omega)).mono ?_
  rintro e W ⟨rfl, h, hbb⟩
  have hE := HB.out.grown hbb (by omega) (fun k hk => by cases hk; omega)
  have ko2 := hbb.cell ko1 (by simp; omega)
  have hW2 : w.heap.size < W.heap.size := World.block_lt_of_cell? _ _ ko2
  clear HB hbb g ko1
  have hMW := h.lt
  have hE2 : Ext W (((W.alloc (Obj.cells #[.int .i64 a] 3)).alloc (Obj.cells #[.int .i64 b] 3)).alloc (Obj.map #[] 0)) := ((((Ext.refl W).alloc (Nat.le_refl _) _).alloc (by simp) _).alloc (by simp; omega) _)
  have hm := MapI.new ((W.alloc (Obj.cells #[.int .i64 a] 3)).alloc (Obj.cells #[.int .i64 b] 3))
  have h5 : (((W.alloc (Obj.cells #[.int .i64 a] 3)).alloc (Obj.cells #[.int .i64 b] 3)).alloc (Obj.map #[] 0)).cell? ⟨W.heap.size, 0, none⟩ = some (.int .i64 a) := by simp [go_sem]
  have h6 : (((W.alloc (Obj.cells #[.int .i64 a] 3)).alloc (Obj.cells #[.int .i64 b] 3)).alloc (Obj.map #[] 0)).cell? ⟨W.heap.size + 1, 0, none⟩ = some (.int .i64 b) := by simp [go_sem]
  simp only [heap_alloc2] at hm
  have ko3 := cells_of (w := W) ko2 (hE2.block _ hW2)
  clear ko2
  have HB := Lib.hid hE
  have HG := Lib.hid h
  have HE2 := Lib.hid hE2
  clear hE h hE2
  have hsX : W.heap.size + 1 + 1 < (((W.alloc (Obj.cells #[.int .i64 a] 3)).alloc (Obj.cells #[.int .i64 b] 3)).alloc (Obj.map #[] 0)).heap.size := by simp
  go_wp2_with (refine wpl_insert rfl rfl Tryz.underlying192 Tryz.underlying3 hm rfl rfl rfl ?_)
  generalize ((W.alloc (Obj.cells #[.int .i64 a] 3)).alloc (Obj.cells #[.int .i64 b] 3)).alloc (Obj.map #[] 0) = X at *
  intro X1 m1 g1
  have G1 := Lib.hid g1
  clear g1 hm
  go_wp2_with (refine wpl_insert rfl rfl Tryz.underlying192 Tryz.underlying3 m1 rfl rfl rfl ?_)
  intro X2 m2 g2
  have G2 := Lib.hid (G1.out.trans' g2)
  clear g2 m1 G1
  go_wp2_with (refine wpl_insert rfl rfl Tryz.underlying192 Tryz.underlying3 m2 rfl rfl rfl ?_)
  intro X3 m3 g3
  have G3 := Lib.hid (G2.out.trans' g3)
  clear g3 m2 G2
  go_wp2_with (refine wpl_insert rfl rfl Tryz.underlying192 Tryz.underlying3 m3 rfl rfl rfl ?_)
  intro X4 m4 g4
  have G4 := Lib.hid (G3.out.trans' g4)
  clear g4 m3 G3
  go_wp2_with (refine wpl_insert rfl rfl Tryz.underlying192 Tryz.underlying3 m4 rfl rfl rfl ?_)
  intro X5 m5 g5
  have G5 := Lib.hid (G4.out.trans' g5)
  clear g5 m4 G4
  go_wp2_with (refine wpl_insert rfl rfl Tryz.underlying192 Tryz.underlying3 m5 rfl rfl rfl ?_)
  intro X6 m6 g6
  have G6 := Lib.hid (G5.out.trans' g6)
  clear g6 m5 G5
  go_wp2_with (refine wpl_insert rfl rfl Tryz.underlying192 Tryz.underlying3 m6 rfl rfl rfl ?_)
  intro X7 m7 g7
  have G7 := Lib.hid (G6.out.trans' g7)
  clear g7 m6 G6
  have ko4 := G7.out.cell ko3 (by simp; omega)
  clear ko3
  have k5 := G7.out.cell h5 (by simp; omega)
  have k6 := G7.out.cell h6 (by simp)
  clear h5 h6
  go_wp2_with (refine wpl_lookup rfl rfl Tryz.underlying192 Tryz.underlying3 m7 rfl rfl rfl ?_)
  clear m7
  go_wp2_with fail
  refine (clo_or _ _ a b _ k5 k6 ha hb).mono ?_
  rintro e Y ⟨rfl, rfl⟩
  rw [Hn.out]
  have hEY := HE2.out.grown G7.out (by omega) (fun k hk => by cases hk; omega)
  have g := HG.out.ext hEY
  clear ko4
  have hE := Below.trans HB.out (hEY.mono (by omega))
  clear HB HE2 hEY HG G7 k5 k6
  have HB := Lib.hid hE
  clear hE
  obtain ⟨ao, co, c0, h6, h7⟩ := g.c0
  have gz := g.fz 0
  have G := Lib.hid g
  have H6 := Lib.hid h6
  have H7 := Lib.hid h7
  have hM := g.lt
  have h6a := h6.alloc (Obj.cells #[.int .i64 n] 3)
  clear g h6 h7
  go_wp2_with (at_builtin; go_must (refine wpl_append rfl rfl Tryz.slInts B rfl h6a rfl (Row.oneAt _ _ _ _ (by simp)) (by simp [Value.oneCell']) (by unfold maxLen; omega) (by omega) (by simp; omega) ?_))
  all_goals first
    | exact ⟨rfl, do_over _ _ _ _ _ _ _ _ _ HB.out (by unfold Small; omega)⟩
    | (intro v1 w1 hown hg hb _
       obtain ⟨a1, d1, rfl, hr1⟩ := hown.row
       have hsm : Small n := by unfold Small; omega
       obtain ⟨hc, hz, hP⟩ := do_tail w _ w1 M B _ cr env s n ao a1 co d1 _ G.out HB.out hsm c0 H6.out H7.out hown hg hb (by omega)
       have HP := Lib.hid hP
       clear hown hg hb hr1 c0 gz h6a hP
       go_wp2
       go_end0
       exact HP.out)

end Go.Proofs.YtbmimdnpchldlaaGreatDoor
