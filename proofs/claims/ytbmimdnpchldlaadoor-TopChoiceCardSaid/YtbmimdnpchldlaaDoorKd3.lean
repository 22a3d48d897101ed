/- Several texts in one: FairQ; FairD; WayD; GoOnP; GoOn; Parts; Fair. No condition. -/
import Derived.Test.YtbmimdnpchldlaaDoorKd2
import Derived.Test.YtbmimdnpchldlaaDoorKd1
import Derived.Outline
import Derived.Deep.DeepCutAuto
import Derived.BigQuiet
namespace Go.Proofs.YtbmimdnpchldlaaDoor
open Go.RowKit

/-- Each reaches the other. -/
def Same (next : List (List Int)) (a b : Nat) : Prop := Reach next a b ∧ Reach next b a
theorem Same.refl (next : List (List Int)) (a : Nat) : Same next a a := ⟨Reach.refl _, Reach.refl _⟩
theorem Same.symm {next : List (List Int)} {a b : Nat} (h : Same next a b) : Same next b a := ⟨h.2, h.1⟩
theorem Same.trans {next : List (List Int)} {a b c : Nat} (h : Same next a b) (k : Same next b c) : Same next a c := ⟨h.1.trans k.1, k.2.trans h.2⟩

/-- What goes round in a part, meets all sets, is named by its least spot. -/
structure FairAt (next : List (List Int)) (bits : Nat → Nat) (M n m : Nat) : Prop where
  least : ∀ b, Same next m b → m ≤ b
  loop : ∃ i k, i < n ∧ Same next m i ∧ Edge next i k ∧ Same next m k
  sets : ∀ t, t < M → ∃ i, i < n ∧ Same next m i ∧ (bits i).testBit t = true

theorem orUp_bit (pn bits : Nat → Nat) (m t : Nat) : ∀ i, (orUp pn bits i m).testBit t = true ↔ ∃ j, j < i ∧ pn j = m ∧ (bits j).testBit t = true
  | 0 => by simp [orUp]
  | i + 1 => by
    have ih := orUp_bit pn bits m t i
    unfold orUp
    split
    · rename_i e
      rw [Nat.testBit_or, Bool.or_eq_true, ih]
      constructor
      · rintro (⟨j, h1, h2, h3⟩ | h)
        · exact ⟨j, by omega, h2, h3⟩
        · exact ⟨i, by omega, e, h⟩
      · rintro ⟨j, h1, h2, h3⟩
        by_cases hj : j = i
        · subst hj; exact .inr h3
        · exact .inl ⟨j, by omega, h2, h3⟩
    · rename_i e
      rw [ih]
      constructor
      · rintro ⟨j, h1, h2, h3⟩
        exact ⟨j, by omega, h2, h3⟩
      · rintro ⟨j, h1, h2, h3⟩
        by_cases hj : j = i
        · subst hj; exact absurd h2 e
        · exact ⟨j, by omega, h2, h3⟩

theorem full_iffG {o M : Nat} (h : o < 2 ^ M) : o = 2 ^ M - 1 ↔ ∀ t, t < M → o.testBit t = true := by
  constructor
  · rintro rfl t ht
    rw [Nat.testBit_two_pow_sub_one]
    simpa using ht
  · intro hb
    apply Nat.eq_of_testBit_eq
    intro t
    rw [Nat.testBit_two_pow_sub_one]
    by_cases ht : t < M
    · rw [hb t ht]; simp [ht]
    · rw [Nat.testBit_lt_two_pow (Nat.lt_of_lt_of_le h (Nat.pow_le_pow_right (by omega) (by omega)))]
      simp [ht]

theorem lpUp_iff (pn : Nat → Nat) (next : List (List Int)) (m : Nat) : ∀ i, lpUp pn next i m = true ↔ ∃ j, j < i ∧ pn j = m ∧ ∃ z ∈ nbs next j, pn z.toNat = m
  | 0 => by simp [lpUp]
  | i + 1 => by
    have ih := lpUp_iff pn next m i
    unfold lpUp
    rw [Bool.or_eq_true, ih, Bool.and_eq_true, beq_iff_eq, List.any_eq_true]
    simp only [beq_iff_eq]
    constructor
    · rintro (⟨j, h1, h2, h3⟩ | ⟨h1, h2⟩)
      · exact ⟨j, by omega, h2, h3⟩
      · exact ⟨i, by omega, h1, h2⟩
    · rintro ⟨j, h1, h2, h3⟩
      by_cases hj : j = i
      · subst hj; exact .inr ⟨h2, h3⟩
      · exact .inl ⟨j, by omega, h2, h3⟩

theorem edge_in {n : Nat} {next : List (List Int)} (hI : Inside n next) (hn : next.length = n) {i k : Nat} (h : Edge next i k) : i < n ∧ k < n := by
  obtain ⟨l, h1, h2⟩ := h
  obtain ⟨hl, e⟩ := List.getElem?_eq_some_iff.1 h1
  have := hI l (by rw [← e]; simp) _ h2
  omega

theorem reach_in {n : Nat} {next : List (List Int)} (hI : Inside n next) (hn : next.length = n) {a b : Nat} (h : Reach next a b) (ha : a < n) : b < n := by
  cases h with
  | refl => exact ha
  | step _ h2 => exact (edge_in hI hn h2).2

theorem fairB_iff {n : Nat} {next : List (List Int)} {part : Nat → Int} {pn bits : Nat → Nat} {M m : Nat} (hp : ∀ a, a < n → PartOk next part a) (hpn : ∀ a, a < n → part a = (pn a : Int)) (hI : Inside n next) (hn : next.length = n) (hb : ∀ i, bits i < 2 ^ M) (hm : m < n) :
    fairB pn next bits M n m = true ↔ FairAt next bits M n m := by
  have hsame : ∀ a b, a < n → b < n → (pn a = pn b ↔ Same next a b) := fun a b ha hb => by
    rw [Same, ← part_iff (hp a ha) (hp b hb), hpn a ha, hpn b hb]
    omega
  have hleast : pn m = m ↔ ∀ b, Same next m b → m ≤ b := by
    obtain ⟨m', h1, h2, h3, h4⟩ := hp m hm
    rw [hpn m hm] at h1
    constructor
    · intro e b hb'
      have := h4 b hb'.1 hb'.2
      omega
    · intro h
      have a1 := h m' ⟨h2, h3⟩
      have a2 := h4 m (Reach.refl _) (Reach.refl _)
      omega
  have hat : ∀ i, i < n → pn m = m → (pn i = m ↔ Same next m i) := fun i hi e => by
    rw [← hsame m i hm hi, e]
    exact eq_comm
  unfold fairB
  rw [Bool.and_eq_true, Bool.and_eq_true, beq_iff_eq, beq_iff_eq, lpUp_iff, full_iffG (orUp_lt pn bits hb n m)]
  constructor
  · rintro ⟨⟨h1, j, hj, h2, z, hz, h3⟩, h4⟩
    refine ⟨hleast.1 h1, ?_, fun t ht => ?_⟩
    · obtain ⟨z0, z1⟩ : 0 ≤ z ∧ z < n := by
        unfold nbs at hz
        rw [List.getD, List.getElem?_eq_getElem (by omega)] at hz
        exact hI _ (by simp) _ hz
      refine ⟨j, z.toNat, hj, (hat j hj h1).1 h2, edge_iff.2 ?_, (hat z.toNat (by omega) h1).1 h3⟩
      rw [show ((z.toNat : Nat) : Int) = z by omega]
      exact hz
    · obtain ⟨i, a1, a2, a3⟩ := (orUp_bit pn bits m t n).1 (h4 t ht)
      exact ⟨i, a1, (hat i a1 h1).1 a2, a3⟩
  · rintro ⟨h1, ⟨i, k, hi, h2, h3, h4⟩, h5⟩
    have e := hleast.2 h1
    refine ⟨⟨e, i, hi, (hat i hi e).2 h2, (k : Int), edge_iff.1 h3, (hat k (edge_in hI hn h3).2 e).2 h4⟩, fun t ht => ?_⟩
    obtain ⟨i, a1, a2, a3⟩ := h5 t ht
    exact (orUp_bit pn bits m t n).2 ⟨i, a1, (hat i a1 e).2 a2, a3⟩

/-- Parts' numbers as Nats. -/
theorem part_nat {n : Nat} {next : List (List Int)} {part : Nat → Int} (hI : Inside n next) (hn : next.length = n) (hp : ∀ a, a < n → PartOk next part a) : ∃ pn : Nat → Nat, lstI n part = lst n pn ∧ (∀ a, a < n → part a = (pn a : Int)) ∧ ∀ a, a < n → pn a < n := by
  have h : ∀ a, a < n → part a = ((part a).toNat : Int) ∧ (part a).toNat < n := fun a ha => by
    obtain ⟨m, h1, h2, h3, h4⟩ := hp a ha
    have := reach_in hI hn h2 ha
    omega
  refine ⟨fun a => (part a).toNat, ?_, fun a ha => (h a ha).1, fun a ha => (h a ha).2⟩
  unfold lstI lst
  exact List.map_congr_left fun a ha => (h a (List.mem_range.1 ha)).1

end Go.Proofs.YtbmimdnpchldlaaDoor

namespace Go.Proofs.YtbmimdnpchldlaaDoor

/-- A fair part that is reached. -/
def FairR (next : List (List Int)) (bits : Nat → Nat) (M n init m : Nat) : Prop := m < n ∧ FairAt next bits M n m ∧ ∃ s, s < init ∧ Reach next s m

end Go.Proofs.YtbmimdnpchldlaaDoor

namespace Go.Proofs.YtbmimdnpchldlaaDoor

/-- A way: the spots that it leaves, one behind the other, up to where it ends. -/
inductive Way (next : List (List Int)) : Nat → List Nat → Nat → Prop
  | nil (a : Nat) : Way next a [] a
  | cons {a b c : Nat} {l : List Nat} : Edge next a c → Way next c l b → Way next a (a :: l) b

section
variable {next : List (List Int)}
theorem Way.app {a b c : Nat} {l k : List Nat} (h : Way next a l b) (g : Way next b k c) : Way next a (l ++ k) c := by
  induction h with
  | nil => exact g
  | cons e _ ih => exact .cons e (ih g)
theorem Way.one {a b : Nat} (h : Edge next a b) : Way next a [a] b := .cons h (.nil _)
theorem Way.reach {a b : Nat} {l : List Nat} (h : Way next a l b) : Reach next a b := by
  induction h with
  | nil => exact .refl _
  | cons e _ ih => exact (Reach.edge e).trans ih
theorem Way.of_reach {a b : Nat} (h : Reach next a b) : ∃ l, Way next a l b := by
  induction h with
  | refl => exact ⟨[], .nil _⟩
  | step _ e ih =>
    obtain ⟨l, hl⟩ := ih
    exact ⟨l ++ [_], hl.app (.one e)⟩
theorem Way.edge {a b : Nat} {l : List Nat} (h : Way next a l b) : ∀ i (hi : i < l.length), Edge next l[i] (if h : i + 1 < l.length then l[i + 1] else b) := by
  induction h with
  | nil => intro i hi; simp at hi
  | @cons a b c l e hw ih =>
    intro i hi
    cases i with
    | zero =>
      cases hw with
      | nil => simpa using e
      | cons e2 hw2 => simpa using e
    | succ i =>
      have := ih i (by simpa using hi)
      simpa using this
theorem Way.head {a b : Nat} {l : List Nat} (h : Way next a l b) : ∃ r, l ++ [b] = a :: r := by
  cases h with
  | nil => exact ⟨[], rfl⟩
  | cons e h => exact ⟨_, rfl⟩
theorem Way.head0 {a b : Nat} {l : List Nat} (h : Way next a l b) : (l ++ [b])[0]? = some a := by
  obtain ⟨r, hr⟩ := h.head
  rw [hr]; rfl
theorem Way.all {a b : Nat} {l : List Nat} (h : Way next a l b) : ∀ i ∈ l, Reach next a i ∧ Reach next i b := by
  induction h with
  | nil => intro i hi; simp at hi
  | cons e hw ih =>
    intro i hi
    rcases List.mem_cons.1 hi with rfl | hi
    · exact ⟨.refl _, (Reach.edge e).trans hw.reach⟩
    · exact ⟨(Reach.edge e).trans (ih i hi).1, (ih i hi).2⟩

/-- A way from one of some spots through such as are wanted on the way to one that is wanted. -/
def WayTo (next : List (List Int)) (F : List Nat) (ins wan : Nat → Bool) (l : List Nat) (b : Nat) : Prop :=
  ∃ a ∈ F, Way next a l b ∧ wan b = true ∧ ∀ x ∈ (l ++ [b]).tail, ins x = true

/-- A way that goes round in a fair part and meets all sets. -/
theorem FairAt.round {bits : Nat → Nat} {M n m : Nat} (h : FairAt next bits M n m) : ∃ l, 0 < l.length ∧ Way next m l m ∧ ∀ t, t < M → ∃ i ∈ l, (bits i).testBit t = true := by
  have key : ∀ M', M' ≤ M → ∃ l, Way next m l m ∧ ∀ t, t < M' → ∃ i ∈ l ++ [m], (bits i).testBit t = true := by
    intro M'
    induction M' with
    | zero => intro _; exact ⟨[], .nil _, fun t ht => by omega⟩
    | succ M' ih =>
      intro hM
      obtain ⟨l, hl, hb⟩ := ih (by omega)
      obtain ⟨i, hi, hs, hbit⟩ := h.sets M' (by omega)
      obtain ⟨l1, h1⟩ := Way.of_reach hs.1
      obtain ⟨l2, h2⟩ := Way.of_reach hs.2
      refine ⟨l ++ (l1 ++ l2), hl.app (h1.app h2), fun t ht => ?_⟩
      by_cases e : t = M'
      · subst e
        refine ⟨i, ?_, hbit⟩
        have hh := h2.head0
        cases l2 with
        | nil => simp at hh; subst hh; simp
        | cons y l2 => simp at hh; subst hh; simp
      · obtain ⟨j, hj, hb2⟩ := hb t (by omega)
        refine ⟨j, ?_, hb2⟩
        rcases List.mem_append.1 hj with hj | hj
        · exact List.mem_append_left _ (List.mem_append_left _ hj)
        · exact List.mem_append_right _ hj
  obtain ⟨l, hl, hb⟩ := key M (Nat.le_refl _)
  obtain ⟨i, k, hi, hs, he, hs2⟩ := h.loop
  obtain ⟨l1, h1⟩ := Way.of_reach hs.1
  obtain ⟨l2, h2⟩ := Way.of_reach hs2.2
  have h3 : Way next m (l1 ++ (i :: l2)) m := h1.app (.cons he h2)
  refine ⟨(l1 ++ (i :: l2)) ++ l, by simp; omega, h3.app hl, fun t ht => ?_⟩
  obtain ⟨j, hj, hb2⟩ := hb t ht
  refine ⟨j, ?_, hb2⟩
  rcases List.mem_append.1 hj with hj | hj
  · exact List.mem_append_right _ hj
  · simp at hj
    subst hj
    have hh := h3.head0
    cases hl1 : l1 ++ (i :: l2) with
    | nil => simp at hl1
    | cons y r => rw [hl1] at hh; simp at hh; subst hh; simp
end

end Go.Proofs.YtbmimdnpchldlaaDoor

namespace Go.Proofs.YtbmimdnpchldlaaDoor
open Go.RowKit

def low1 (s : TS) (c : Nat) (rest : List (Nat × Nat)) : Nat → Nat :=
  match rest with
  | [] => s.low
  | (u, _) :: _ => upd s.low u (min (s.low u) (s.low c))

theorem lowL_lst {n : Nat} {next : List (List Int)} {s : TS} (h : TInv n next s none) {c k : Nat} {rest : List (Nat × Nat)} (hc : s.cs = (c, k) :: rest) : lowL (lst n s.low) (csL rest) c = lst n (low1 s c rest) := by
  have hcn : c < n := h.bnd c (h.csm (c, k) (by rw [hc]; simp)).1
  cases rest with
  | nil => rfl
  | cons p rest =>
    obtain ⟨u, ku⟩ := p
    have hun : u < n := h.bnd u (h.csm (u, ku) (by rw [hc]; simp)).1
    have hg : (csL ((u, ku) :: rest)).getLast? = some ((u : Int), (ku : Int)) := by rw [csL_cons]; simp
    unfold lowL
    rw [hg]
    show (lst n s.low).set ((u : Int)).toNat (min ((lst n s.low).getD ((u : Int)).toNat 0) ((lst n s.low).getD c 0)) = _
    have e : ((u : Int)).toNat = u := by omega
    rw [e, lst_getD n _ hun, lst_getD n _ hcn]
    have e2 : min (s.low u : Int) (s.low c : Int) = ((min (s.low u) (s.low c) : Nat) : Int) := by omega
    rw [e2, lst_upd n s.low _ hun]
    rfl

theorem low1_c {n : Nat} {next : List (List Int)} {s : TS} (h : TInv n next s none) {c k : Nat} {rest : List (Nat × Nat)} (hc : s.cs = (c, k) :: rest) : low1 s c rest c = s.low c := by
  cases rest with
  | nil => rfl
  | cons p rest =>
    obtain ⟨u, ku⟩ := p
    have := (h.top hc).1 (u, ku) (by simp)
    have hne : c ≠ u := fun e => by subst e; simp at this
    exact upd_ne _ _ hne

/-- It stays open. -/
theorem leave_open {n : Nat} {next : List (List Int)} {s : TS} (h : TInv n next s none) {c k : Nat} {rest : List (Nat × Nat)} (hc : s.cs = (c, k) :: rest) (hk : k = (nbs next c).length) (hne : s.low c ≠ s.ord c) :
    TInv n next { s with cs := rest, low := low1 s c rest } none := by
  cases rest with
  | nil => exact absurd (h.root hc) hne
  | cons p rest => exact h.pop hc hk hne

/-- What lies in front of it in open was met behind it. -/
theorem os_parts {n : Nat} {next : List (List Int)} {s : TS} (h : TInv n next s none) {c : Nat} {dd oo : List Nat} (ho : s.os = dd ++ c :: oo) : (∀ y ∈ dd, s.ord c < s.ord y) ∧ (∀ y ∈ oo, s.ord y < s.ord c) := by
  have := h.oso
  rw [ho, List.pairwise_append, List.pairwise_cons] at this
  exact ⟨fun y hy => this.2.2 y hy c (by simp), fun y hy => this.2.1.1 y hy⟩

theorem fold_min_le : ∀ (D : List Nat) (c : Nat), ∃ m : Nat, (D.map fun d : Nat => (d : Int)).foldl min (c : Int) = m ∧ (m = c ∨ m ∈ D) ∧ m ≤ c ∧ ∀ d ∈ D, m ≤ d
  | [], c => ⟨c, rfl, .inl rfl, Nat.le_refl _, by simp⟩
  | d :: D, c => by
    obtain ⟨m, h1, h2, h3, h4⟩ := fold_min_le D (min c d)
    refine ⟨m, ?_, ?_, by omega, ?_⟩
    · rw [List.map_cons, List.foldl_cons]
      have e : min (c : Int) (d : Int) = ((min c d : Nat) : Int) := by omega
      rw [e]; exact h1
    · rcases h2 with h2 | h2
      · rcases Nat.le_total c d with hm | hm
        · rw [Nat.min_eq_left hm] at h2; exact .inl h2
        · rw [Nat.min_eq_right hm] at h2; exact .inr (by rw [h2]; simp)
      · exact .inr (List.mem_cons_of_mem _ h2)
    · intro x hx
      rcases List.mem_cons.1 hx with rfl | hx
      · omega
      · exact h4 x hx

/-- Its part is whole. -/
theorem leave_close {n : Nat} {next : List (List Int)} {s : TS} (h : TInv n next s none) {c k : Nat} {rest : List (Nat × Nat)} (hc : s.cs = (c, k) :: rest) (hk : k = (nbs next c).length) (heq : s.low c = s.ord c) {dd oo : List Nat} (ho : s.os = dd ++ c :: oo) :
    ∃ part', setAll (lstI n s.part) ((c : Int) :: osL dd) (leastOf' c ((c : Int) :: osL dd)) = lstI n part' ∧ TInv n next { s with cs := rest, low := low1 s c rest, os := oo, part := part' } none := by
  obtain ⟨p1, p2⟩ := os_parts h ho
  have hD : (c : Int) :: osL dd = (c :: dd.reverse).map fun d : Nat => (d : Int) := by simp [osL]
  obtain ⟨m, h1, h2, h3, h4⟩ := fold_min_le (c :: dd.reverse) c
  have hbnd : ∀ d ∈ c :: dd.reverse, d < n := fun d hd => h.bnd d (by
    rw [ho]
    rcases List.mem_cons.1 hd with rfl | hd
    · simp
    · exact List.mem_append_left _ (List.mem_reverse.1 hd))
  refine ⟨fun a => if a ∈ c :: dd.reverse then (m : Int) else s.part a, ?_, ?_⟩
  · unfold leastOf'
    rw [hD, h1]
    exact setAll_lst n s.part m _ hbnd
  · have hl : ∀ p ∈ rest, low1 s c rest p.1 = s.low p.1 := by
      cases rest with
      | nil => simp
      | cons q rest =>
        obtain ⟨u, ku⟩ := q
        intro p hp
        have hu := h.W (u, ku) (by rw [hc]; simp)
        have hlt := (h.top hc).1 (u, ku) (by simp)
        show upd s.low u (min (s.low u) (s.low c)) p.1 = s.low p.1
        by_cases e : p.1 = u
        · rw [e, upd_at]
          have : s.low u ≤ s.ord u := hu.1
          have h5 : s.ord u < s.ord c := hlt
          omega
        · exact upd_ne _ _ e
    have hiff : ∀ a, a ∈ c :: dd.reverse ↔ a ∈ dd ++ [c] := fun a => by simp [or_comm]
    have := h.close (D := dd ++ [c]) (os' := oo) (low' := low1 s c rest) (m := m) hc hk heq hl (by rw [ho]; simp) (fun y hy => by
        rcases List.mem_append.1 hy with h | h
        · exact Nat.le_of_lt (p1 y h)
        · simp only [List.mem_singleton] at h; subst h; exact Nat.le_refl _) p2 ((hiff m).1 (by rcases h2 with h | h; rw [h]; simp; exact h)) (fun y hy => h4 y ((hiff y).2 hy))
    simp only [hiff]
    exact this

end Go.Proofs.YtbmimdnpchldlaaDoor

namespace Go.Proofs.YtbmimdnpchldlaaDoor
open Go.RowKit

/-- What a step of the search leaves. -/
def GoPost (B P n Do Dl Dp : Nat) (g0 g1 g2 g3 g4 : Value) (next : List (List Int)) (w : World) (s : TS) (e : Ending) (w' : World) : Prop :=
  e = .returned (.tuple #[]) ∧ Below B w w' ∧ ∃ τ' s', TSM τ' B P n Do Dl Dp g0 g1 g2 g3 g4 w' s' ∧ TInv n next s' none ∧ mu n next s' < mu n next s ∧ s'.met + unm n s'.ord = s.met + unm n s.ord ∧ ∀ a, s.ord a ≠ 0 → s'.ord a ≠ 0

set_option maxRecDepth 100000 in
set_option maxHeartbeats 8000000 in
theorem goOn_any (τ : Nat → Nat) (B P n Do Dl Dp : Nat) (g0 g1 g3 g4 : Value) (ax : Option Addr) (cx : Nat) (next : List (List Int)) (w : World) (s : TS) (h : TSM τ B P n Do Dl Dp g0 g1 (.slice ax next.length cx) g3 g4 w s) (hi : TInv n next s none) (hne : s.cs ≠ [])
    (hL : Lists w (.slice ax next.length cx) next) (hn : next.length = n) (hI : Inside n next) (h20 : n ≤ 20000) (hmet : s.met ≤ n) :
    Calls Tryd.prog 89 #[.pointer (some ⟨P, 0, none⟩)] w (GoPost B P n Do Dl Dp g0 g1 (.slice ax next.length cx) g3 g4 next w s) := by
  obtain ⟨vo, vc, hm⟩ := h.mem
  obtain ⟨⟨c, k⟩, rest, hcs⟩ : ∃ p rest, s.cs = p :: rest := by
    cases e : s.cs with
    | nil => exact absurd e hne
    | cons p rest => exact ⟨p, rest, rfl⟩
  have hcc := hi.csm (c, k) (by rw [hcs]; simp)
  have hcn : c < n := hi.bnd c hcc.1
  obtain ⟨ac, cc, rfl, _⟩ := hm.cls.own.row
  have hco := hm.cls.own
  have hcsl : csL s.cs = csL rest ++ [((c : Int), (k : Int))] := by rw [hcs, csL_cons]
  rw [hcsl] at hco hm
  simp only [List.length_append, List.length_singleton, List.flatMap_append, List.flatMap_cons, List.flatMap_nil, List.append_nil] at hco
  obtain ⟨g, rfl, hcc1, hcc2, cc1, cc2, fc2, _⟩ := frames_pop hco
  have c9 := blk_cell hm.blk (i := 9) rfl
  have c2 := blk_cell hm.blk (i := 2) rfl
  simp only [List.length_append, List.length_singleton] at c9
  obtain ⟨_, _, _, bn, on, han, hcn2⟩ := hL.cells
  obtain rfl := han (by omega)
  obtain ⟨ai, ci, hx, hx2⟩ := hcn2 c (by omega)
  have hnb : nbs next c = next[c]'(by omega) := by simp [nbs, List.getD, List.getElem?_eq_getElem (show c < next.length by omega)]
  obtain ⟨_, _, e, hri⟩ := hx2
  simp only [Value.slice.injEq] at e
  obtain ⟨rfl, _, rfl⟩ := e
  have hmi : (next[c]'(by omega)).length ≤ 9223372036854775807 := by have h1 := hri.max; have h2 := hri.le; unfold maxLen at h1; omega
  unfold maxLen at hcc2
  have hrl : (csL rest).length ≤ 9223372036854775806 := by omega
  have hcI : (c : Int) < (next.length : Int) := by omega
  have hcI0 : (0 : Int) ≤ (c : Int) := by omega
  have HM := Lib.hid hm
  have HI := Lib.hid hi
  have HCS := Lib.hid hcs
  have HRI := Lib.hid hri
  have HNB := Lib.hid hnb
  have HLI := Lib.hid (hI (next[c]'(by omega)) (by simp))
  clear h hm hi hcs hri hnb hco hcsl hne hL hcn2 han
  generalize hre : csL rest = rl at *
  have HRE := Lib.hid hre
  generalize hle : next[c]'(by omega) = l at *
  clear hre hle
  go_enter Tryd.func89, Tryd.ntmps89
  go_wp2_with fail
  go_quiet (fail)
  obtain ⟨n0, rfl⟩ : ∃ n0 : Nat, n0 = nq := ⟨_, rfl⟩
  go_wp2_with fail
  go_quiet (fail)
  have hW : ∀ m, Ext w (w.drewN m) := fun m => below_drewN (Ext.refl w) m
  by_cases hk : k = l.length
  · have hkb : ((k : Int) == (l.length : Int)) = true := by simp [hk]
    have hcs := HCS.out
    obtain ⟨dd, oo, hos⟩ := List.append_of_mem (HI.out.csm (c, k) (by rw [hcs]; simp)).1
    have hos2 : osL s.os = osL oo ++ (c : Int) :: osL dd := by rw [hos]; simp [osL]
    have hpost : (c : Int) ∉ osL dd := fun h => by
      simp only [osL, List.mem_map, List.mem_reverse] at h
      obtain ⟨a, ha, e⟩ := h
      have e' : a = c := by omega
      subst e'
      exact Nat.lt_irrefl _ ((os_parts HI.out hos).1 a ha)
    have hDn : ∀ x ∈ (c : Int) :: osL dd, ∃ a : Nat, x = a ∧ a < n := fun x hx => by
      rcases List.mem_cons.1 hx with rfl | hx
      · exact ⟨c, rfl, hcn⟩
      · simp only [osL, List.mem_map, List.mem_reverse] at hx
        obtain ⟨a, ha, e⟩ := hx
        exact ⟨a, e.symm, HI.out.bnd a (by rw [hos]; simp [ha])⟩
    have hCn : ∀ p ∈ rl, ∃ a : Nat, p.1 = a ∧ a < n := fun p hp => by
      rw [← HRE.out] at hp
      simp only [csL, List.mem_map, List.mem_reverse] at hp
      obtain ⟨q, hq, e⟩ := hp
      exact ⟨q.1, by rw [← e], HI.out.bnd q.1 (HI.out.csm q (by rw [hcs]; simp [hq])).1⟩
    have hlen : (osL s.os).length ≤ 20000 := by
      rw [osL_len]
      have := pairwise_len HI.out.bnd HI.out.oso
      omega
    have hrlen : rl.length ≤ 20000 := by
      rw [← HRE.out, csL_len]
      have h1 : (rest.map (·.1)).length ≤ n := pairwise_len (f := s.ord) (fun a ha => by
        obtain ⟨q, hq, rfl⟩ := List.mem_map.1 ha
        exact HI.out.bnd q.1 (HI.out.csm q (by rw [hcs]; simp [hq])).1) (by
        have := HI.out.cso
        rw [hcs, List.pairwise_cons] at this
        exact List.pairwise_map.2 this.2)
      simp only [List.length_map] at h1
      omega
    have hm := HM.out
    rw [hos2] at hm hlen
    have HLV := Lib.hid fun m => leave_any τ B P n Do Dl Dp g0 g1 _ g3 g4 (w.drewN m) vo _ _ _ _ (osL oo) (osL dd) rl _ c k (hm.ext (hW m)) hcn hlen hrlen hpost hDn hCn
    have HOS := Lib.hid hos
    clear hm hlen hpost hDn hCn hos hos2 hcs
    go_wp2_with fail
    refine (HLV.out _).mono ?_
    rintro e w' ⟨rfl, hB, τ', vo', vc', pw', ol', hS, hcase⟩
    have HB := Lib.hid hB
    have HS := Lib.hid hS
    have HCA := Lib.hid hcase
    clear hB hS hcase
    go_wp2
    go_end0
    have hS := HS.out
    have hcs := HCS.out
    have hk2 : k = (nbs next c).length := by rw [HNB.out]; exact hk
    rw [← HRE.out, lowL_lst HI.out hcs] at hS
    have hca := HCA.out
    rw [← HRE.out, lowL_lst HI.out hcs, lst_getD n _ hcn, lst_getD n _ hcn, low1_c HI.out hcs] at hca
    have hmu : restC next rest < restC next s.cs := by rw [hcs]; simp only [restC, List.map_cons, List.sum_cons]; omega
    have hBw : Below B w w' := Below.trans (Ext.below (hW _) (by have := HM.out.new; have := blk_lt HM.out.blk; omega)) HB.out
    rcases hca with ⟨h1, rfl, rfl⟩ | ⟨h1, rfl, rfl⟩
    · refine ⟨rfl, hBw, τ', { s with cs := rest, low := low1 s c rest }, ⟨vo', vc', ?_⟩, leave_open HI.out hcs hk2 (fun e => h1 (by rw [e])), (by show restU n next s.ord + restC next rest < mu n next s; unfold mu; omega), rfl, fun a h => h⟩
      have hos2 : osL s.os = osL oo ++ (c : Int) :: osL dd := by rw [HOS.out]; simp [osL]
      rw [← hos2] at hS
      exact hS
    · obtain ⟨part', g1', g2'⟩ := leave_close HI.out hcs hk2 (by omega) HOS.out
      rw [g1'] at hS
      exact ⟨rfl, hBw, τ', { s with cs := rest, low := low1 s c rest, os := oo, part := part' }, ⟨vo', vc', hS⟩, g2', (by show restU n next s.ord + restC next rest < mu n next s; unfold mu; omega), rfl, fun a h => h⟩
  · have hkb : ((k : Int) == (l.length : Int)) = false := by rw [beq_eq_false_iff_ne]; omega
    have hkl : k < l.length := by
      have := (HI.out.csm (c, k) (by rw [HCS.out]; simp)).2
      rw [HNB.out] at this
      simp only at this
      omega
    obtain ⟨bi, oi, hri1, hri2⟩ := ints_cells HRI.out
    obtain rfl := hri1 (by omega)
    have ck := hri2 k hkl
    obtain ⟨hz0, hz1⟩ := HLI.out l[k] (by simp)
    obtain ⟨z, hz⟩ : ∃ z : Nat, l[k] = (z : Int) := ⟨l[k].toNat, by omega⟩
    rw [hz] at ck hz0 hz1
    have HLK := Lib.hid (show (nbs next c)[k]? = some (z : Int) by rw [HNB.out, List.getElem?_eq_getElem hkl, hz])
    have hzn : z < n := by omega
    have hkI : (k : Int) < (l.length : Int) := by omega
    have hkI0 : (0 : Int) ≤ (k : Int) := by omega
    have HRI1 := Lib.hid hri1
    clear hri1 hri2 hz
    obtain ⟨n1, rfl⟩ : ∃ n1 : Nat, n1 = nq := ⟨_, rfl⟩
    go_wp2_with fail
    go_quiet (fail)
    have hW2 : Ext w ((w.drewN (n0 + n1)).drewN nq) := below_drewN (below_drewN (Ext.refl w) _) _
    have hm2 := HM.out.ext hW2
    rw [show (rl ++ [((c : Int), (k : Int))]).length = rl.length + 1 by simp] at hm2
    replace fc2 : ((w.drewN (n0 + n1)).drewN nq).frozen? ⟨g, rl.length * 2 + 1, none⟩ = false := (World.frozen?_of_block (hW2.block g (World.block_lt_of_cell? _ _ cc2))).trans fc2
    replace cc2 := cell_later hW2 cc2
    replace cc1 := cell_later hW2 cc1
    have hBw := Ext.below hW2 (B := B) (by have := HM.out.new; have := blk_lt HM.out.blk; omega)
    obtain ⟨hm3, hBg⟩ := hm2.setFrame ((k : Int) + 1)
    have hzl : z < (lst n s.ord).length := by rw [lst_len]; exact hzn
    have co : ((w.drewN (n0 + n1)).drewN nq).cell? ⟨Do, z, none⟩ = some (.int .i64 (s.ord z : Int)) := (own_cellAt hm2.ord.own (i := z) (by simpa using hzl)).trans (by
      have e := lst_get n s.ord hzn
      rw [List.getElem?_eq_getElem hzl] at e
      rw [List.getElem_map, Option.some.inj e])
    have hzl2 : z < (lstI n s.part).length := by rw [lstI_len]; exact hzn
    have cp : ((w.drewN (n0 + n1)).drewN nq).cell? ⟨Dp, z, none⟩ = some (.int .i64 (s.part z)) := (own_cellAt hm2.prt.own (i := z) (by simpa using hzl2)).trans (by
      have e := lstI_get n s.part hzn
      rw [List.getElem?_eq_getElem hzl2] at e
      rw [List.getElem_map, Option.some.inj e])
    have hcl3 : c < (lst n s.low).length := by rw [lst_len]; exact hcn
    have clo : ((w.drewN (n0 + n1)).drewN nq).cell? ⟨Dl, c, none⟩ = some (.int .i64 (s.low c : Int)) := (own_cellAt hm2.low.own (i := c) (by simpa using hcl3)).trans (by
      have e := lst_get n s.low hcn
      rw [List.getElem?_eq_getElem hcl3] at e
      rw [List.getElem_map, Option.some.inj e])
    have flc := own_freeAt hm2.low.own c
    have c5 := blk_cell hm2.blk (i := 5) rfl
    have c6 := blk_cell hm2.blk (i := 6) rfl
    have c7 := blk_cell hm2.blk (i := 7) rfl
    have tg : τ g = 5 := hm2.cls.tag g rfl
    obtain ⟨t1, t2, t3⟩ := hm2.tags
    have t0 := hm2.tag
    have q1 : ¬ g = Do := fun e => by rw [e] at tg; omega
    have q2 : ¬ Do = g := fun e => q1 e.symm
    have q3 : ¬ g = P := fun e => by rw [e] at tg; omega
    have q4 : ¬ P = g := fun e => q3 e.symm
    have q5 : ¬ g = Dp := fun e => by rw [e] at tg; omega
    have q6 : ¬ Dp = g := fun e => q5 e.symm
    have q7 : ¬ g = Dl := fun e => by rw [e] at tg; omega
    have q8 : ¬ Dl = g := fun e => q7 e.symm
    have hzI : (z : Int) < (n : Int) := by omega
    have hB3 := hBw.setCell (p := ⟨g, rl.length * 2 + 1, none⟩) hBg (.int .i64 ((k : Int) + 1))
    have HM3 := Lib.hid hm3
    have HB3 := Lib.hid hB3
    clear hW2 hm2 hBw hm3 hB3 c2 c9 hx ck tg t1 t2 t3 t0
    generalize (w.drewN (n0 + n1)).drewN nq = W2 at *
    by_cases hz0' : s.ord z = 0
    · have hob : ((s.ord z : Int) == 0) = true := by simp [hz0']
      have HZ0 := Lib.hid hz0'
      clear hz0'
      have hlen : (osL s.os).length ≤ 20000 := by
        rw [osL_len]
        have := pairwise_len HI.out.bnd HI.out.oso
        omega
      have hrlen : (rl ++ [((c : Int), (k : Int) + 1)]).length ≤ 20000 := by
        rw [← HRE.out, List.length_append, csL_len]
        have h1 : (s.cs.map (·.1)).length ≤ n := pairwise_len (f := s.ord) (fun a ha => by
          obtain ⟨q, hq, rfl⟩ := List.mem_map.1 ha
          exact HI.out.bnd q.1 (HI.out.csm q hq).1) (List.pairwise_map.2 HI.out.cso)
        rw [HCS.out] at h1
        simp only [List.length_map, List.length_cons] at h1
        simp only [List.length_singleton]
        omega
      have HEN := Lib.hid (enter_any τ B P n Do Dl Dp g0 g1 _ g3 g4 _ vo _ _ _ _ _ _ _ HM3.out z hzn hlen hrlen (by omega) (by omega))
      clear hlen hrlen
      go_wp2_with fail
      refine HEN.out.mono ?_
      rintro e w' ⟨rfl, ⟨τ', vo', vc', hS⟩, hB⟩
      have HS := Lib.hid hS
      have HB := Lib.hid hB
      clear hS hB
      go_wp2
      go_end0
      have hcs := HCS.out
      have hz0' := HZ0.out
      have hed : Edge next c z := edge_iff.2 (List.mem_of_getElem? HLK.out)
      have hlook := HI.out.look (Z' := some z) hcs HLK.out (.inr rfl) (.inl rfl) (fun ho => absurd hz0' ((HI.out.osm z).1 ho).1)
      have hent := hlook.enter hz0' hzn (fun p hp => by
        rcases List.mem_cons.1 hp with rfl | hp2
        · exact Reach.edge hed
        · have hpc : p ∈ s.cs := by rw [hcs]; exact List.mem_cons_of_mem _ hp2
          exact (HI.out.A p hpc c (HI.out.csm (c, k) (by rw [hcs]; simp)).1 ((HI.out.top hcs).2 p hpc)).step hed)
      refine ⟨rfl, HB3.out.trans HB.out, τ', _, ⟨vo', vc', ?_⟩, hent, ?_, (by show s.met + 1 + unm n (upd s.ord z (s.met + 1)) = s.met + unm n s.ord; have := unm_enter (m := s.met) hz0' hzn; omega), fun a ha => ?_⟩
      · have h := HS.out
        rw [show ((s.met : Int) + 1) = ((s.met + 1 : Nat) : Int) by omega, lst_upd n s.ord _ hzn, lst_upd n s.low _ hzn, ← osL_cons, ← HRE.out] at h
        have e : csL ((z, 0) :: (c, k + 1) :: rest) = csL rest ++ [((c : Int), (k : Int) + 1)] ++ [((z : Int), 0)] := by rw [csL_cons, csL_cons]; simp
        rw [← e] at h
        exact h
      · show restU n next (upd s.ord z (s.met + 1)) + restC next ((z, 0) :: (c, k + 1) :: rest) < mu n next s
        have := restU_enter (next := next) (m := s.met) hz0' hzn
        have hkd : k < (nbs next c).length := by rw [HNB.out]; exact hkl
        unfold mu
        rw [hcs]
        simp only [restC, List.map_cons, List.sum_cons]
        omega
      · show upd s.ord z (s.met + 1) a ≠ 0
        by_cases e : a = z
        · subst e; rw [upd_at]; omega
        · rw [upd_ne _ _ e]; exact ha
    · have hob : ((s.ord z : Int) == 0) = false := by simp [hz0']
      have HZ0 := Lib.hid hz0'
      clear hz0'
      by_cases hp : s.part z = -1
      · have hzo : z ∈ s.os := (HI.out.osm z).2 ⟨HZ0.out, hp⟩
        have hpn : s.part z < 0 := by omega
        have HZO := Lib.hid hzo
        clear hzo hp
        go_wp2_with fail
        go_region
        generalize hv : (if s.ord z < s.low c then (s.ord z : Int) else (s.low c : Int)) = v at *
        have HV := Lib.hid hv
        clear hv
        have HM4 := Lib.hid ((HM3.out.setLow c v).ext (Below.drew (Ext.refl _)))
        have HB4 := Lib.hid (Below.drew (HB3.out.setCell (p := ⟨Dl, c, none⟩) HM3.out.bases.2.1 (.int .i64 v)))
        go_wp2
        go_end0
        have hcs := HCS.out
        have hmin : min (s.low c) (s.ord z) ≤ s.ord z := Nat.min_le_right _ _
        refine ⟨rfl, HB4.out, τ, { s with cs := (c, k + 1) :: rest, low := upd s.low c (min (s.low c) (s.ord z)) }, ⟨vo, .slice (some ⟨g, 0, none⟩) (rl.length + 1) cc, ?_⟩, HI.out.look hcs HLK.out (.inl HZ0.out) (.inr ⟨HZO.out, rfl⟩) (fun _ => by rw [upd_at]; exact hmin), ?_, rfl, fun a ha => ha⟩
        · have e : csL ((c, k + 1) :: rest) = rl ++ [((c : Int), (k : Int) + 1)] := by rw [csL_cons, HRE.out]; simp
          have e2 : v = ((min (s.low c) (s.ord z) : Nat) : Int) := by rw [← HV.out]; split <;> omega
          show SM τ B P n Do Dl Dp g0 g1 _ g3 g4 _ vo _ (lst n s.ord) (lst n (upd s.low c (min (s.low c) (s.ord z)))) (lstI n s.part) (osL s.os) (csL ((c, k + 1) :: rest)) (s.met : Int)
          have h := HM4.out
          rw [hn] at h
          rw [e, ← lst_upd n s.low _ hcn, ← e2]
          exact h
        · show restU n next s.ord + restC next ((c, k + 1) :: rest) < mu n next s
          have hkd : k < (nbs next c).length := by rw [HNB.out]; exact hkl
          unfold mu
          rw [hcs]
          simp only [restC, List.map_cons, List.sum_cons]
          omega
      · have hp0 : ¬ s.part z < 0 := by
          obtain ⟨m, h1, _⟩ := HI.out.P z hp
          omega
        have HP := Lib.hid hp
        clear hp
        go_wp2
        go_end0
        have hcs := HCS.out
        refine ⟨rfl, HB3.out, τ, { s with cs := (c, k + 1) :: rest }, ⟨vo, .slice (some ⟨g, 0, none⟩) (rl.length + 1) cc, ?_⟩, HI.out.look hcs HLK.out (.inl HZ0.out) (.inl rfl) (fun ho => absurd ((HI.out.osm z).1 ho).2 HP.out), ?_, rfl, fun a ha => ha⟩
        · have e : csL ((c, k + 1) :: rest) = rl ++ [((c : Int), (k : Int) + 1)] := by rw [csL_cons, HRE.out]; simp
          show SM τ B P n Do Dl Dp g0 g1 _ g3 g4 _ vo _ (lst n s.ord) (lst n s.low) (lstI n s.part) (osL s.os) (csL ((c, k + 1) :: rest)) (s.met : Int)
          rw [e]
          have h := HM3.out
          rw [hn] at h
          exact h
        · show restU n next s.ord + restC next ((c, k + 1) :: rest) < mu n next s
          have hkd : k < (nbs next c).length := by rw [HNB.out]; exact hkl
          unfold mu
          rw [hcs]
          simp only [restC, List.map_cons, List.sum_cons]
          omega

end Go.Proofs.YtbmimdnpchldlaaDoor

namespace Go.Proofs.YtbmimdnpchldlaaDoor
open Go.RowKit

def zeros (n : Nat) : Obj := .cells (madeCells #[Value.int .i64 0] (n * 1)) 3 (0, 0)
theorem made_zero (n : Nat) : (madeCells #[Value.int .i64 0] (n * 1)).toList = (lst n fun _ => 0).map (.int .i64) := by
  rw [Nat.mul_one, toList_madeCells_one]
  simp [lst, List.map_const']
theorem lstI_zero (n : Nat) : lst n (fun _ => 0) = lstI n fun _ => 0 := rfl

/-- Behind the three makes, in whatever order they came. -/
theorem sm_made (w : World) (n i j k : Nat) (g0 g1 g2 g3 g4 : Value) (hn : n ≤ 20000) (hi : i < 3) (hj : j < 3) (hk : k < 3) (h1 : i ≠ j) (h2 : i ≠ k) (h3 : j ≠ k) :
    ∃ τ, SM τ w.heap.size (w.heap.size + 3) n (w.heap.size + i) (w.heap.size + j) (w.heap.size + k) g0 g1 g2 g3 g4
      ((((w.alloc (zeros n)).alloc (zeros n)).alloc (zeros n)).alloc (.cells #[g0, g1, g2, g3, g4, .slice (some ⟨w.heap.size + i, 0, none⟩) n n, .slice (some ⟨w.heap.size + j, 0, none⟩) n n, .slice (some ⟨w.heap.size + k, 0, none⟩) n n, .slice none 0 0, .slice none 0 0, .int .i64 0] 164)) (.slice none 0 0) (.slice none 0 0) (lst n fun _ => 0) (lst n fun _ => 0) (lstI n fun _ => 0) [] [] 0 := by
  have hmax : n ≤ maxLen := by unfold maxLen; omega
  have ho : ∀ (d : Nat), d < 3 → ∀ o : Obj, ((((w.alloc (zeros n)).alloc (zeros n)).alloc (zeros n)).alloc o).ownsRow w.heap.size 3 1 (.slice (some ⟨w.heap.size + d, 0, none⟩) n n) n ((lst n fun _ => 0).map (.int .i64)) := by
    intro d hd o
    rw [← made_zero]
    have hs := size_madeCells #[Value.int .i64 0] (n * 1)
    rcases (by omega : d = 0 ∨ d = 1 ∨ d = 2) with rfl | rfl | rfl
    · exact (((World.ownsRow_lit (base := w.heap.size) (e := 3) w _ n (Nat.le_refl _) hmax hs).alloc _).alloc _).alloc _
    · have := World.ownsRow_lit (base := w.heap.size) (e := 3) (w.alloc (zeros n)) _ n (by simp) hmax hs
      rw [show (w.alloc (zeros n)).heap.size = w.heap.size + 1 by simp] at this
      exact (this.alloc _).alloc _
    · have := World.ownsRow_lit (base := w.heap.size) (e := 3) ((w.alloc (zeros n)).alloc (zeros n)) _ n (by simp; omega) hmax hs
      rw [show ((w.alloc (zeros n)).alloc (zeros n)).heap.size = w.heap.size + 2 by simp] at this
      exact this.alloc _
  have hb := blk_new (((w.alloc (zeros n)).alloc (zeros n)).alloc (zeros n)) (.cells #[g0, g1, g2, g3, g4, .slice (some ⟨w.heap.size + i, 0, none⟩) n n, .slice (some ⟨w.heap.size + j, 0, none⟩) n n, .slice (some ⟨w.heap.size + k, 0, none⟩) n n, .slice none 0 0, .slice none 0 0, .int .i64 0] 164)
  rw [show (((w.alloc (zeros n)).alloc (zeros n)).alloc (zeros n)).heap.size = w.heap.size + 3 by simp] at hb
  refine ⟨fun b => if b = w.heap.size + i then 1 else if b = w.heap.size + j then 2 else if b = w.heap.size + k then 3 else 0, hb, ⟨ho i hi _, fun b hb => ?_⟩, ⟨ho j hj _, fun b hb => ?_⟩, ⟨ho k hk _, fun b hb => ?_⟩, OwnT.nil _ _ _ _ _ _, OwnT.nil _ _ _ _ _ _, ?_, by omega⟩
  · simp only [Value.ownBlock, Option.some.injEq] at hb
    rw [if_pos hb.symm]
  · simp only [Value.ownBlock, Option.some.injEq] at hb
    rw [if_neg (by omega), if_pos hb.symm]
  · simp only [Value.ownBlock, Option.some.injEq] at hb
    rw [if_neg (by omega), if_neg (by omega), if_pos hb.symm]
  · show (if w.heap.size + 3 = _ then 1 else _) = 0
    rw [if_neg (by omega), if_neg (by omega), if_neg (by omega)]

theorem Parts_first (w : World) (n i j k : Nat) (g0 g1 g2 g3 g4 : Value) (hn : n ≤ 20000) (hi : i < 3) (hj : j < 3) (hk : k < 3) (h1 : i ≠ j) (h2 : i ≠ k) (h3 : j ≠ k) :
    ∃ (τ : Nat → Nat) (Do Dl Dp : Nat), Value.pointer (some ⟨w.heap.size + 1 + 1 + 1, 0, none⟩) = .pointer (some ⟨w.heap.size + 3, 0, none⟩) ∧ SM τ w.heap.size (w.heap.size + 3) n Do Dl Dp g0 g1 g2 g3 g4
      ((((w.alloc (zeros n)).alloc (zeros n)).alloc (zeros n)).alloc (.cells #[g0, g1, g2, g3, g4, .slice (some ⟨w.heap.size + i, 0, none⟩) n n, .slice (some ⟨w.heap.size + j, 0, none⟩) n n, .slice (some ⟨w.heap.size + k, 0, none⟩) n n, .slice none 0 0, .slice none 0 0, .int .i64 0] 164)).drew (.slice none 0 0) (.slice none 0 0) (lst n fun _ => 0) (lst n fun _ => 0) (lstI n fun _ => 0) [] [] 0 ∧
      Ext w ((((w.alloc (zeros n)).alloc (zeros n)).alloc (zeros n)).alloc (.cells #[g0, g1, g2, g3, g4, .slice (some ⟨w.heap.size + i, 0, none⟩) n n, .slice (some ⟨w.heap.size + j, 0, none⟩) n n, .slice (some ⟨w.heap.size + k, 0, none⟩) n n, .slice none 0 0, .slice none 0 0, .int .i64 0] 164)).drew := by
  obtain ⟨τ, h⟩ := sm_made w n i j k g0 g1 g2 g3 g4 hn hi hj hk h1 h2 h3
  exact ⟨τ, _, _, _, rfl, h.ext (Below.drew (Ext.refl _)), Below.drew (ext_al (ext_al (ext_al (ext_al (Ext.refl _) _) _) _) _)⟩

theorem minus_upd (i : Nat) : upd (fun a => if a < i then (-1 : Int) else 0) i (-1) = fun a => if a < i + 1 then (-1 : Int) else 0 := by
  funext a
  unfold upd
  by_cases e : a = i
  · subst e; rw [if_pos rfl, if_pos (by omega)]
  · rw [if_neg e]
    by_cases h : a < i
    · simp only; rw [if_pos h, if_pos (by omega)]
    · simp only; rw [if_neg h, if_neg (by omega)]
theorem lstI_minus (n : Nat) : lstI n (fun a => if a < n then (-1 : Int) else 0) = lstI n fun _ => -1 := by
  unfold lstI
  exact List.map_congr_left fun a ha => by rw [if_pos (List.mem_range.1 ha)]

/-- What Parts leaves. -/
def PartsPost (n : Nat) (next : List (List Int)) (w : World) (e : Ending) (w' : World) : Prop :=
  ∃ (D : Nat) (part : Nat → Int), e = .returned (.tuple #[.slice (some ⟨D, 0, none⟩) n n, .int .i64 0]) ∧ w'.ownsRow w.heap.size 3 1 (.slice (some ⟨D, 0, none⟩) n n) n ((lstI n part).map (.int .i64)) ∧ (∀ a, a < n → PartOk next part a) ∧ Ext w w'

set_option maxRecDepth 100000 in
set_option maxHeartbeats 8000000 in
theorem parts_any (sp nx st : Value) (init : Nat) (M : Nat) (S : List Sp2) (next : List (List Int)) (sets : List Int) (w : World) (hS : Spots w sp S) (hN : Lists w nx next) (hT : Ints w st sets) (hk : GOk S.length next sets init M) :
    Calls Tryd.prog 48 #[.agg #[sp, .int .i64 (init : Int), nx, st, .int .i64 (M : Int)]] w (PartsPost S.length next w) := by
  have HCK := Lib.hid fun wx (hx : Ext w wx) => gcheck_ok sp nx st init M S next sets wx (hS.ext hx) (hN.ext hx) (hT.ext hx) hk
  obtain ⟨asp, csp, rfl, _⟩ := hS
  obtain ⟨ax, cx, rfl⟩ : ∃ a c, nx = .slice a next.length c := by
    obtain ⟨vs, he, a, c, rfl, _⟩ := hN
    exact ⟨a, c, rfl⟩
  obtain ⟨at', ct, rfl, hrt⟩ := hT
  have HLN := Lib.hid fun wx (hx : Ext w wx) => hN.ext hx
  have HI := Lib.hid hk.ins
  have HN := Lib.hid hk.nx
  have h20 := hk.max
  generalize S.length = n at *
  obtain ⟨i0, hi1, hi2, hi3, hi4⟩ := Tryd.slIntsG.inf
  have hmk : ∀ wx : World, (Instr.makeSlice 38 (.int .i64 (n : Int)) (.int .i64 (n : Int))).run Tryd.prog wx = .ok (.slice (some ⟨wx.heap.size, 0, none⟩) n n) (wx.alloc (zeros n)) := by
    intro wx
    have h := run_make (P := Tryd.prog) wx 38 3 i0 (.int .i64 0) Tryd.slIntsG.und hi1 hi2 .i64 .i64 n n (by omega) (Int.le_refl _) (by rw [hi4]; omega) (by omega)
    rw [hi3] at h
    simpa [zeros, Value.cells] using h
  clear hN hk hrt hi1 hi2 hi3 hi4
  go_enter Tryd.func48, Tryd.ntmps48
  go_wp2_with fail
  refine (HCK.out _ (ext_al (Ext.refl w) _)).mono ?_
  rintro e w1 ⟨rfl, hE1⟩
  have hA : Ext w (w.alloc (Obj.cells #[.slice asp n csp, .int .i64 (init : Int), .slice ax next.length cx, .slice at' sets.length ct, .int .i64 (M : Int)] 40)) := ext_al (Ext.refl w) _
  have bA := blk_ext (blk_new w (Obj.cells #[.slice asp n csp, .int .i64 (init : Int), .slice ax next.length cx, .slice at' sets.length ct, .int .i64 (M : Int)] 40)) hE1
  have cA0 := blk_cell bA (i := 0) rfl
  have cA1 := blk_cell bA (i := 1) rfl
  have cA2 := blk_cell bA (i := 2) rfl
  have cA3 := blk_cell bA (i := 3) rfl
  have cA4 := blk_cell bA (i := 4) rfl
  have HE1 := Lib.hid (hA.trans hE1)
  have hs1 : w.heap.size < w1.heap.size := blk_lt bA
  clear hA bA hE1 HCK
  go_wp2_with fail
  have hce : ∀ wx, Ext w1 wx → ∀ i, wx.cell? ⟨w.heap.size, i, none⟩ = w1.cell? ⟨w.heap.size, i, none⟩ := fun wx h i => by simp only [World.cell?]; rw [h.block _ hs1]
  have he1 := hce (w1.alloc (zeros n)) (ext_al (Ext.refl _) _)
  have he2 := hce ((w1.alloc (zeros n)).alloc (zeros n)) (ext_al (ext_al (Ext.refl _) _) _)
  have he3 := hce (((w1.alloc (zeros n)).alloc (zeros n)).alloc (zeros n)) (ext_al (ext_al (ext_al (Ext.refl _) _) _) _)
  clear hce
  go_cut [6] (fun s6 wx => ∃ (τ : Nat → Nat) (Do Dl Dp : Nat), s6 = .pointer (some ⟨w1.heap.size + 3, 0, none⟩) ∧ SM τ w1.heap.size (w1.heap.size + 3) n Do Dl Dp (.slice asp n csp) (.int .i64 (init : Int)) (.slice ax next.length cx) (.slice at' sets.length ct) (.int .i64 (M : Int)) wx (.slice none 0 0) (.slice none 0 0) (lst n fun _ => 0) (lst n fun _ => 0) (lstI n fun _ => 0) [] [] 0 ∧ Ext w1 wx)
  case first =>
    go_region
    all_goals
      go_wp2_with fail
      go_meet
      first
        | exact Parts_first w1 n 0 1 2 _ _ _ _ _ h20 (by omega) (by omega) (by omega) (by omega) (by omega) (by omega)
        | exact Parts_first w1 n 0 2 1 _ _ _ _ _ h20 (by omega) (by omega) (by omega) (by omega) (by omega) (by omega)
        | exact Parts_first w1 n 1 0 2 _ _ _ _ _ h20 (by omega) (by omega) (by omega) (by omega) (by omega) (by omega)
        | exact Parts_first w1 n 1 2 0 _ _ _ _ _ h20 (by omega) (by omega) (by omega) (by omega) (by omega) (by omega)
        | exact Parts_first w1 n 2 0 1 _ _ _ _ _ h20 (by omega) (by omega) (by omega) (by omega) (by omega) (by omega)
        | exact Parts_first w1 n 2 1 0 _ _ _ _ _ h20 (by omega) (by omega) (by omega) (by omega) (by omega) (by omega)
  case rest =>
    obtain ⟨τ, Do, Dl, Dp, rfl, hm, hE⟩ := hcut
    clear cA0 cA1 cA2 cA3 cA4 he1 he2 he3 hmk
    have c7 := blk_cell hm.blk (i := 7) rfl
    have HB := Lib.hid (show w.heap.size ≤ w1.heap.size by omega)
    generalize w1.heap.size + 3 = P at *
    have HE := Lib.hid (hE.mono HB.out)
    have HM := Lib.hid hm
    clear hm hE hs1
    go_wp2_with fail
    clear c7
    generalize w1.heap.size = B at *
    generalize Value.slice asp n csp = g0 at *
    generalize Value.slice at' sets.length ct = g3 at *
    have HEW := Lib.hid (Below.trans HE1.out HE.out)
    go_loopg [31] n (fun m x wr => ∃ (i : Nat) (τ : Nat → Nat), m + i = n ∧ x = .int .i64 (i : Int) ∧ SM τ B P n Do Dl Dp g0 (.int .i64 (init : Int)) (.slice ax next.length cx) g3 (.int .i64 (M : Int)) wr (.slice none 0 0) (.slice none 0 0) (lst n fun _ => 0) (lst n fun _ => 0) (lstI n fun a => if a < i then -1 else 0) [] [] 0 ∧ Ext w wr)
    case atStart => exact ⟨0, τ, by omega, by go_num, by simpa using HM.out, HEW.out⟩
    case round =>
      obtain ⟨i, τ, hmi, rfl, hm, hE⟩ := hrel
      clear HM HEW
      have c7 := blk_cell hm.blk (i := 7) rfl
      have HE := Lib.hid hE
      have HMI := Lib.hid hmi
      by_cases hi : i < n
      · have hil : i < (lstI n fun a => if a < i then -1 else 0).length := by rw [lstI_len]; exact hi
        obtain ⟨y, cp⟩ : ∃ y, wr.cell? ⟨Dp, i, none⟩ = some (.int .i64 y) := ⟨_, (own_cellAt hm.prt.own (i := i) (by simpa using hil)).trans (by rw [List.getElem_map])⟩
        have fp := own_freeAt hm.prt.own i
        have hiI : (i : Int) < (n : Int) := by omega
        have hi0 : (0 : Int) ≤ (i : Int) := by omega
        have HM2 := Lib.hid (hm.setPrt i (-1))
        have HE2 := Lib.hid (ext_st hE (p := ⟨Dp, i, none⟩) (by have := hm.bases.2.2; have := HB.out; show w.heap.size ≤ Dp; omega) (.int .i64 (-1)))
        clear hm hE hmi
        go_wp2_with fail
        go_roundg (gk - 1)
        case measure => have := HMI.out; omega
        case rel => exact ⟨i + 1, τ, by have := HMI.out; omega, by go_num, by have h := HM2.out; rw [lstI_upd n _ _ hi, minus_upd] at h; exact h, HE2.out⟩
      · have hiI : ¬ (i : Int) < (n : Int) := by omega
        have hin : i = n := by have := HMI.out; omega
        have hm2 : TSM τ B P n Do Dl Dp g0 (.int .i64 (init : Int)) (.slice ax next.length cx) g3 (.int .i64 (M : Int)) wr ⟨fun _ => 0, fun _ => 0, fun _ => -1, [], [], 0⟩ := ⟨_, _, by have h := hm; rw [hin, lstI_minus] at h; exact h⟩
        have HM2 := Lib.hid hm2
        clear hm hE hmi hm2 hin
        go_wp2_with fail
        clear c7 hiI hi HMI
        obtain ⟨wo, rfl⟩ : ∃ wo : World, wo = wr := ⟨_, rfl⟩
        go_loopg [42] n (fun m x wr => ∃ (i : Nat) (τ : Nat → Nat) (s : TS), m + i = n ∧ x = .int .i64 (i : Int) ∧ TSM τ B P n Do Dl Dp g0 (.int .i64 (init : Int)) (.slice ax next.length cx) g3 (.int .i64 (M : Int)) wr s ∧
          TInv n next s none ∧ s.cs = [] ∧ s.met + unm n s.ord = n ∧ (∀ a, a < i → s.ord a ≠ 0) ∧ Ext w wr)
        case atStart => exact ⟨0, τ, _, by omega, by go_num, HM2.out, TInv.init n next, rfl, by rw [unm_init]; simp, fun a ha => by omega, HE.out⟩
        case round =>
          obtain ⟨i, τ, s, hmi, rfl, hm, hti, hcs, hcnt, hal, hE⟩ := hrel
          clear HM2 HE
          obtain ⟨vo, vc, hs⟩ := hm.mem
          have c5 := blk_cell hs.blk (i := 5) rfl
          have c7 := blk_cell hs.blk (i := 7) rfl
          have HE := Lib.hid hE
          have HMI := Lib.hid hmi
          have HM := Lib.hid hm
          have HS := Lib.hid hs
          have HTI := Lib.hid hti
          have HCS := Lib.hid hcs
          have HCNT := Lib.hid hcnt
          have HAL := Lib.hid hal
          by_cases hi : i < n
          · have hil : i < (lst n s.ord).length := by rw [lst_len]; exact hi
            have co : wr.cell? ⟨Do, i, none⟩ = some (.int .i64 (s.ord i : Int)) := (own_cellAt hs.ord.own (i := i) (by simpa using hil)).trans (by
              have e := lst_get n s.ord hi
              rw [List.getElem?_eq_getElem hil] at e
              rw [List.getElem_map, Option.some.inj e])
            have hiI : (i : Int) < (n : Int) := by omega
            have hi0 : (0 : Int) ≤ (i : Int) := by omega
            clear hs hm hti hcs hcnt hal hE hmi c7
            by_cases hz : s.ord i = 0
            case' pos =>
              have hzb : ((s.ord i : Int) == 0) = true := by simp [hz]
              have HZ := Lib.hid hz
              clear hz
              have hlen : (osL s.os).length ≤ 20000 := by
                rw [osL_len]
                have := pairwise_len HTI.out.bnd HTI.out.oso
                omega
              have hrlen : (csL s.cs).length ≤ 20000 := by rw [HCS.out]; simp [csL]
              have HEN := Lib.hid (enter_any τ B P n Do Dl Dp g0 _ _ g3 _ _ vo vc _ _ _ _ _ _ HS.out i hi hlen hrlen (by omega) (by have := HCNT.out; omega))
              clear hlen hrlen
              go_wp2_with fail
              refine HEN.out.mono ?_
              rintro e w' ⟨rfl, ⟨τ', vo', vc', hS⟩, hB⟩
              have HS2 := Lib.hid hS
              have HE2 := Lib.hid (Below.trans HE.out (hB.mono HB.out))
              have hz := HZ.out
              have HTI2 := Lib.hid ((TInv.weak HTI.out).enter hz hi (fun p hp => by rw [HCS.out] at hp; simp at hp))
              have HM2 := Lib.hid (show TSM τ' B P n Do Dl Dp g0 (.int .i64 (init : Int)) (.slice ax next.length cx) g3 (.int .i64 (M : Int)) w' ⟨upd s.ord i (s.met + 1), upd s.low i (s.met + 1), s.part, i :: s.os, (i, 0) :: s.cs, s.met + 1⟩ from ⟨vo', vc', by
                have h := HS2.out
                rw [show ((s.met : Int) + 1) = ((s.met + 1 : Nat) : Int) by omega, lst_upd n s.ord _ hi, lst_upd n s.low _ hi, ← osL_cons] at h
                have e : csL ((i, 0) :: s.cs) = csL s.cs ++ [((i : Int), 0)] := by rw [csL_cons]; simp
                rw [← e] at h
                exact h⟩)
              have HCNT2 := Lib.hid (show s.met + 1 + unm n (upd s.ord i (s.met + 1)) = n by
                have := unm_enter (m := s.met) hz hi
                have := HCNT.out
                omega)
              have HAL2 := Lib.hid (show ∀ a, a < i + 1 → upd s.ord i (s.met + 1) a ≠ 0 from fun a ha => by
                by_cases e : a = i
                · subst e; rw [upd_at]; omega
                · rw [upd_ne _ _ e]; exact HAL.out a (by omega))
              obtain ⟨s2, HTI2, HM2, HCNT2, HAL2⟩ : ∃ s2 : TS, Hid (TInv n next s2 none) ∧ Hid (TSM τ' B P n Do Dl Dp g0 (.int .i64 (init : Int)) (.slice ax next.length cx) g3 (.int .i64 (M : Int)) w' s2) ∧ Hid (s2.met + unm n s2.ord = n) ∧ Hid (∀ a, a < i + 1 → s2.ord a ≠ 0) := ⟨_, HTI2, HM2, HCNT2, HAL2⟩
              clear HE HM HS HTI HCS HCNT HAL HS2 hS hB hz HZ HEN c5 co
              go_wp2_with fail
            case' neg =>
              have hzb : ((s.ord i : Int) == 0) = false := by simp [hz]
              have HAL2 := Lib.hid (show ∀ a, a < i + 1 → s.ord a ≠ 0 from fun a ha => by
                by_cases e : a = i
                · subst e; exact hz
                · exact HAL.out a (by omega))
              have HM2 := HM
              have HE2 := HE
              have HTI2 := HTI
              have HCNT2 := HCNT
              clear HE HM HS HTI HCS HCNT HAL hz
              go_wp2_with fail
              clear c5 co
              obtain ⟨s2, rfl⟩ : ∃ s2 : TS, s2 = s := ⟨_, rfl⟩
            all_goals
              obtain ⟨wi, rfl⟩ : ∃ wi : World, wi = wr := ⟨_, rfl⟩
              obtain ⟨G0, rfl⟩ : ∃ G0 : Nat, G0 = gk := ⟨_, rfl⟩
              go_loopg [] (mu n next s2) (fun m wr => ∃ (τ : Nat → Nat) (s : TS), m = mu n next s ∧ TSM τ B P n Do Dl Dp g0 (.int .i64 (init : Int)) (.slice ax next.length cx) g3 (.int .i64 (M : Int)) wr s ∧
                TInv n next s none ∧ s.met + unm n s.ord = n ∧ (∀ a, a < i + 1 → s.ord a ≠ 0) ∧ Ext w wr)
              case atStart => exact ⟨_, _, rfl, HM2.out, HTI2.out, HCNT2.out, HAL2.out, HE2.out⟩
              case round =>
                obtain ⟨τ, s, hgk, hm, hti, hcnt, hal, hE⟩ := hrel
                clear HM2 HE2 HTI2 HCNT2 HAL2
                obtain ⟨vo, vc, hs⟩ := hm.mem
                obtain ⟨ac, cc, rfl, _⟩ := hs.cls.own.row
                have c9 := blk_cell hs.blk (i := 9) rfl
                rw [csL_len] at c9
                have HM := Lib.hid hm
                have HE := Lib.hid hE
                have HTI := Lib.hid hti
                have HCNT := Lib.hid hcnt
                have HAL := Lib.hid hal
                have HGK := Lib.hid hgk
                have hGO := Lib.hid fun hne => goOn_any τ B P n Do Dl Dp g0 (.int .i64 (init : Int)) g3 (.int .i64 (M : Int)) ax cx next wr s hm hti hne (HLN.out _ hE) HN.out HI.out h20 (by omega)
                clear hm hti hcnt hal hE hgk hs
                by_cases hne : s.cs = []
                · have hl : s.cs.length = 0 := by rw [hne]; rfl
                  rw [hl] at c9
                  clear hGO
                  go_wp2_with fail
                  go_roundg (G0 - 1)
                  case measure => have := HMI.out; omega
                  case rel => exact ⟨i + 1, τ, s, by have := HMI.out; omega, by go_num, HM.out, HTI.out, hne, HCNT.out, HAL.out, HE.out⟩
                · have hl : 0 < s.cs.length := List.length_pos_iff.2 hne
                  have hlI : (0 : Int) < (s.cs.length : Int) := by omega
                  go_wp2_with fail
                  refine (hGO.out hne).mono ?_
                  rintro e w' ⟨rfl, hB, τ', s', h1, h2, h3, h4, h5⟩
                  have H1 := Lib.hid h1
                  have H2 := Lib.hid h2
                  have H3 := Lib.hid h3
                  have H4 := Lib.hid h4
                  have H5 := Lib.hid h5
                  have HB2 := Lib.hid hB
                  clear h1 h2 h3 h4 h5 hB
                  go_wp2_with fail
                  go_roundg (mu n next s')
                  case measure => have := HGK.out; have := H3.out; omega
                  case rel => exact ⟨τ', s', rfl, H1.out, H2.out, H4.out.trans HCNT.out, fun a ha => H5.out a (HAL.out a ha), Below.trans HE.out (HB2.out.mono HB.out)⟩
          · have hiI : ¬ (i : Int) < (n : Int) := by omega
            have HO := Lib.hid hs.prt.own
            clear hs hm hti hcs hcnt hal hE hmi c5
            go_wp2
            go_ret2
            exact ⟨Dp, s.part, rfl, own_down HO.out HB.out, fun a ha => (HTI.out.whole HCS.out).2 a (HAL.out a (by omega)), HE.out⟩

end Go.Proofs.YtbmimdnpchldlaaDoor

namespace Go.Proofs.YtbmimdnpchldlaaDoor
open Go.RowKit

def falses (n : Nat) : Obj := .cells (madeCells #[Value.bool false] (n * 1)) 4 (0, 0)
theorem made_falses (n : Nat) : (madeCells #[Value.bool false] (n * 1)).toList = (lsB n fun _ => false).map .bool := by
  rw [Nat.mul_one, made_false, lsB_false]

/-- Behind the two makes, in whatever order they came. -/
theorem fair_made (w : World) (n : Nat) (hn : n ≤ 20000) :
    ∀ o1 o2 : Obj, (o1 = falses n ∧ o2 = zeros n → ((w.alloc o1).alloc o2).drew.ownsRow w.heap.size 4 1 (.slice (some ⟨w.heap.size, 0, none⟩) n n) n ((lsB n fun _ => false).map .bool) ∧ ((w.alloc o1).alloc o2).drew.ownsRow w.heap.size 3 1 (.slice (some ⟨w.heap.size + 1, 0, none⟩) n n) n ((lst n fun _ => 0).map (.int .i64)))
      ∧ (o1 = zeros n ∧ o2 = falses n → ((w.alloc o1).alloc o2).drew.ownsRow w.heap.size 4 1 (.slice (some ⟨w.heap.size + 1, 0, none⟩) n n) n ((lsB n fun _ => false).map .bool) ∧ ((w.alloc o1).alloc o2).drew.ownsRow w.heap.size 3 1 (.slice (some ⟨w.heap.size, 0, none⟩) n n) n ((lst n fun _ => 0).map (.int .i64))) := by
  intro o1 o2
  have hmax : n ≤ maxLen := by unfold maxLen; omega
  have hs1 := size_madeCells #[Value.bool false] (n * 1)
  have hs2 := size_madeCells #[Value.int .i64 0] (n * 1)
  have hd : ∀ x : World, Ext x x.drew := fun x => Below.drew (Ext.refl _)
  rw [← made_falses, ← made_zero]
  constructor
  · rintro ⟨rfl, rfl⟩
    refine ⟨own_ext ((World.ownsRow_lit (base := w.heap.size) (e := 4) w _ n (Nat.le_refl _) hmax hs1).alloc _) (hd _), ?_⟩
    have := World.ownsRow_lit (base := w.heap.size) (e := 3) (w.alloc (falses n)) _ n (by simp) hmax hs2
    rw [show (w.alloc (falses n)).heap.size = w.heap.size + 1 by simp] at this
    exact own_ext this (hd _)
  · rintro ⟨rfl, rfl⟩
    refine ⟨?_, own_ext ((World.ownsRow_lit (base := w.heap.size) (e := 3) w _ n (Nat.le_refl _) hmax hs2).alloc _) (hd _)⟩
    have := World.ownsRow_lit (base := w.heap.size) (e := 4) (w.alloc (zeros n)) _ n (by simp) hmax hs1
    rw [show (w.alloc (zeros n)).heap.size = w.heap.size + 1 by simp] at this
    exact own_ext this (hd _)

theorem hd_at {α : Type} {f : α → Value} {w : World} {base : Nat} {e : TypeId} {D n cap : Nat} {l : List α} {i : Nat} {x : α} (h : w.ownsRow base e 1 (.slice (some ⟨D, 0, none⟩) n cap) n (l.map f)) (hi : l[i]? = some x) : w.cell? ⟨D, i, none⟩ = some (f x) := by
  obtain ⟨hl, e⟩ := List.getElem?_eq_some_iff.1 hi
  refine (own_cellAt h (i := i) (by simpa using hl)).trans ?_
  rw [List.getElem_map, e]

set_option maxRecDepth 100000 in
set_option maxHeartbeats 8000000 in
theorem fair_any (sp nx st : Value) (init : Nat) (M : Nat) (S : List Sp2) (next : List (List Int)) (sets : List Int) (w : World) (hS : Spots w sp S) (hN : Lists w nx next) (hT : Ints w st sets) (hk : GOk S.length next sets init M)
    (vp : Value) (pn : Nat → Nat) (hP : Ints w vp (lst S.length pn)) (hpn : ∀ a, a < S.length → pn a < S.length) :
    Calls Tryd.prog 86 #[.agg #[sp, .int .i64 (init : Int), nx, st, .int .i64 (M : Int)], vp] w fun e w' => ∃ v, e = .returned v ∧ w'.ownsRow w.heap.size 4 1 v S.length ((lsB S.length (fairB pn next (bitsN sets) M S.length)).map .bool) ∧ Ext w w' := by
  have HSL := Lib.hid hk.st
  have HB0 := Lib.hid hk.bits
  have hm6 := hk.m6
  have HI := Lib.hid hk.ins
  have HN := Lib.hid hk.nx
  have h20 := hk.max
  obtain ⟨asp, csp, rfl, _⟩ := hS
  obtain ⟨ax, cx, rfl⟩ : ∃ a c, nx = .slice a next.length c := by
    obtain ⟨vs, he, a, c, rfl, _⟩ := hN
    exact ⟨a, c, rfl⟩
  obtain ⟨at', ct, rfl, hrt⟩ := hT
  obtain ⟨ap, cp, rfl, hrp⟩ := hP
  rw [lst_len] at hrp
  obtain ⟨bt, ot, ht1, ht2⟩ := ints_cells hrt
  obtain ⟨bp, op, hp1, hp2⟩ := ints_cells (show Row w 1 ap (lst S.length pn).length cp ((lst S.length pn).map (.int .i64)) by rw [lst_len]; exact hrp)
  rw [lst_len] at hp1
  have HPC := Lib.hid (show ∀ a, a < S.length → w.cell? ⟨bp, op + a, none⟩ = some (.int .i64 (pn a : Int)) from fun a ha => by
    rw [hp2 a (by rw [lst_len]; exact ha)]
    have e := lst_get S.length pn ha
    rw [List.getElem?_eq_getElem (by rw [lst_len]; exact ha)] at e
    rw [Option.some.inj e])
  have HTC := Lib.hid (show ∀ a (ha : a < sets.length), w.cell? ⟨bt, ot + a, none⟩ = some (.int .i64 (bitsN sets a : Int)) from fun a ha => by
    rw [ht2 a ha, bitsN_eq HB0.out ha])
  have HP1 := Lib.hid hp1
  have HT1 := Lib.hid ht1
  have HLN := Lib.hid hN
  have HBL := Lib.hid (bitsN_lt HB0.out)
  have HPN := Lib.hid hpn
  rw [lst_len]
  generalize S.length = n at *
  generalize bitsN sets = bs at *
  obtain ⟨PM, hPM⟩ : ∃ PM, (2 : Int) ^ M = PM := ⟨_, rfl⟩
  have hw0 : IntKind.i64.wrap ((2 : Int) ^ M) = PM := (wrap_pow hm6).trans hPM
  have hPMn : ((2 ^ M : Nat) : Int) = PM := by rw [← hPM]; push_cast; rfl
  have hp64 : 2 ^ M ≤ 2 ^ 6 := Nat.pow_le_pow_right (by omega) hm6
  have hp01 := Nat.two_pow_pos M
  have HPM := Lib.hid hPMn
  have hPM1 : 1 ≤ PM := by omega
  have hPM2 : PM ≤ 64 := by omega
  have HOU := Lib.hid (show ∀ i m, orUp pn bs i m < 9223372036854775808 from fun i m => by have := orUp_lt pn bs HBL.out i m; omega)
  have HBS := Lib.hid (show ∀ i, bs i < 9223372036854775808 from fun i => by have := HBL.out i; omega)
  obtain ⟨_, _, _, bn, on, han, hcn⟩ := hN.cells
  have HC := Lib.hid hcn
  have HAN := Lib.hid han
  obtain ⟨i0, hi1, hi2, hi3, hi4⟩ := Tryd.slIntsG.inf
  have hmk : ∀ wx : World, (Instr.makeSlice 38 (.int .i64 (n : Int)) (.int .i64 (n : Int))).run Tryd.prog wx = .ok (.slice (some ⟨wx.heap.size, 0, none⟩) n n) (wx.alloc (zeros n)) := by
    intro wx
    have h := run_make (P := Tryd.prog) wx 38 3 i0 (.int .i64 0) Tryd.slIntsG.und hi1 hi2 .i64 .i64 n n (by omega) (Int.le_refl _) (by rw [hi4]; omega) (by omega)
    rw [hi3] at h
    simpa [zeros, Value.cells] using h
  obtain ⟨i1, hj1, hj2, hj3, hj4⟩ := Tryd.slBoolsG.inf
  have hmb : ∀ wx : World, (Instr.makeSlice 76 (.int .i64 (n : Int)) (.int .i64 (n : Int))).run Tryd.prog wx = .ok (.slice (some ⟨wx.heap.size, 0, none⟩) n n) (wx.alloc (falses n)) := by
    intro wx
    have h := run_make (P := Tryd.prog) wx 76 4 i1 (.bool false) Tryd.slBoolsG.und hj1 hj2 .i64 .i64 n n (by omega) (Int.le_refl _) (by rw [hj4]; omega) (by omega)
    rw [hj3] at h
    simpa [falses, Value.cells] using h
  clear hcn han hPM hPMn hp64 hp01 HBL hN hk hrt hi1 hi2 hi3 hi4 hj1 hj2 hj3 hj4 hp1 hp2 ht1 ht2 hrp hpn HB0
  go_enter Tryd.func86, Tryd.ntmps86
  have BA := Lib.hid (blk_new w (Obj.cells #[.slice asp n csp, .int .i64 (init : Int), .slice ax next.length cx, .slice at' sets.length ct, .int .i64 (M : Int)] 40))
  have HA := Lib.hid (ext_al (Ext.refl w) (Obj.cells #[.slice asp n csp, .int .i64 (init : Int), .slice ax next.length cx, .slice at' sets.length ct, .int .i64 (M : Int)] 40))
  go_wp2_with fail
  generalize w.alloc (Obj.cells #[.slice asp n csp, .int .i64 (init : Int), .slice ax next.length cx, .slice at' sets.length ct, .int .i64 (M : Int)] 40) = W1 at *
  go_cut [6, 7] (fun s6 s7 wx => ∃ (L T : Nat), s6 = .slice (some ⟨L, 0, none⟩) n n ∧ s7 = .slice (some ⟨T, 0, none⟩) n n ∧ L ≠ T ∧ wx.ownsRow W1.heap.size 4 1 (.slice (some ⟨L, 0, none⟩) n n) n ((lsB n fun _ => false).map .bool) ∧
    wx.ownsRow W1.heap.size 3 1 (.slice (some ⟨T, 0, none⟩) n n) n ((lst n fun _ => 0).map (.int .i64)) ∧ Ext W1 wx)
  case first =>
    go_region
    · go_wp2_with fail
      go_meet
      have h := (fair_made W1 n h20 (falses n) (zeros n)).1 ⟨rfl, rfl⟩
      exact ⟨_, _, rfl, rfl, by omega, h.1, h.2, Below.drew (ext_al (ext_al (Ext.refl _) _) _)⟩
    · go_wp2_with fail
      go_meet
      have h := (fair_made W1 n h20 (zeros n) (falses n)).2 ⟨rfl, rfl⟩
      exact ⟨_, _, rfl, rfl, by omega, h.1, h.2, Below.drew (ext_al (ext_al (Ext.refl _) _) _)⟩
  case rest =>
    obtain ⟨L, T, rfl, rfl, hLT, hoL, hoT, hE⟩ := hcut
    have hW : w.heap.size ≤ W1.heap.size := HA.out.size
    have HW := Lib.hid hW
    have HOL := Lib.hid hoL
    have HOT := Lib.hid hoT
    have bA := blk_ext BA.out hE
    have cA2 := blk_cell bA (i := 2) rfl
    have HE := Lib.hid hE
    have HLT := Lib.hid hLT
    have hs1 := blk_lt BA.out
    clear hoL hoT hE bA hW hLT hmk
    go_wp2_with fail
    clear cA2
    go_loopg [24] next.length (fun m x wr => ∃ i : Nat, m + i = next.length ∧ x = .int .i64 (i : Int) ∧ wr.ownsRow W1.heap.size 4 1 (.slice (some ⟨L, 0, none⟩) n n) n ((lsB n (lpUp pn next i)).map .bool) ∧
      wr.ownsRow W1.heap.size 3 1 (.slice (some ⟨T, 0, none⟩) n n) n ((lst n (orUp pn bs i)).map (.int .i64)) ∧ Ext W1 wr)
    case atStart => exact ⟨0, by omega, by go_num, HOL.out, HOT.out, HE.out⟩
    case round =>
      obtain ⟨i, hmi, rfl, hoL, hoT, hE⟩ := hrel
      clear HOL HOT HE
      have HMI := Lib.hid hmi
      have HOL := Lib.hid hoL
      have HOT := Lib.hid hoT
      have HE := Lib.hid hE
      have bA := blk_ext BA.out hE
      have hEW := HA.out.trans hE
      by_cases hi : i < next.length
      · have hin : i < n := by have := HN.out; omega
        have hil : i < sets.length := by have := HSL.out; omega
        obtain ⟨ai, ci, hx, hx2⟩ := HC.out i hi
        have hnb : nbs next i = next[i] := by simp [nbs, List.getD, List.getElem?_eq_getElem hi]
        obtain ⟨_, _, e, hri⟩ := hx2
        simp only [Value.slice.injEq] at e
        obtain ⟨rfl, _, rfl⟩ := e
        obtain rfl := HAN.out (by omega)
        obtain rfl := HP1.out (by omega)
        obtain rfl := HT1.out (by omega)
        have hpi := HPN.out i hin
        have cx := cell_later hEW hx
        have cA3 := blk_cell bA (i := 3) rfl
        have cpi := cell_later hEW (HPC.out i hin)
        have cti := cell_later hEW (HTC.out i hil)
        have cT := hd_at hoT (lst_get n (orUp pn bs i) hpi)
        have fT := own_freeAt hoT (pn i)
        have hor := i64_or_nat (orUp pn bs i (pn i)) (bs i) (HOU.out i (pn i)) (HBS.out i)
        have hiI : (i : Int) < (next.length : Int) := by omega
        have hiI2 : (i : Int) < (n : Int) := by omega
        have hiI3 : (i : Int) < (sets.length : Int) := by omega
        have hi0 : (0 : Int) ≤ (i : Int) := by omega
        have hpI : (pn i : Int) < (n : Int) := by omega
        have hpI0 : (0 : Int) ≤ (pn i : Int) := by omega
        have hmi' : next[i].length ≤ 9223372036854775807 := by have h1 := hri.max; have h2 := hri.le; unfold maxLen at h1; omega
        have HRI := Lib.hid hri
        have HNB := Lib.hid hnb
        have HLI := Lib.hid (HI.out next[i] (by simp))
        have hLB := (hoL.lt L rfl).1
        have hTB := (hoT.lt T rfl).1
        have hq1 : ¬ T = w.heap.size := by omega
        have hq2 : ¬ w.heap.size = T := by omega
        have hLT2 : ¬ L = T := HLT.out
        clear hmi hoL hoT hE bA hEW hri hnb hx
        generalize next[i] = l at *
        go_wp2_with fail
        go_region
        have hoT2 : (wr.setCell ⟨T, pn i, none⟩ (.int .i64 ((orUp pn bs i (pn i) ||| bs i : Nat) : Int))).ownsRow W1.heap.size 3 1 (.slice (some ⟨T, 0, none⟩) n n) n ((lst n (orUp pn bs (i + 1))).map (.int .i64)) := by
          have h := own_setAt HOT.out (i := pn i) (.int .i64 ((orUp pn bs i (pn i) ||| bs i : Nat) : Int))
          rw [set_map_int, lst_upd n (orUp pn bs i) _ hpi, orUp_step] at h
          exact h
        have hoL2 := own_setCell HOL.out (p := ⟨T, pn i, none⟩) (.int .i64 ((orUp pn bs i (pn i) ||| bs i : Nat) : Int)) (fun e => hLT2 (by simpa [Value.ownBlock] using e))
        have hE2 := ext_st HE.out (p := ⟨T, pn i, none⟩) hTB (.int .i64 ((orUp pn bs i (pn i) ||| bs i : Nat) : Int))
        have hd : Ext (wr.setCell ⟨T, pn i, none⟩ (.int .i64 ((orUp pn bs i (pn i) ||| bs i : Nat) : Int))) (wr.setCell ⟨T, pn i, none⟩ (.int .i64 ((orUp pn bs i (pn i) ||| bs i : Nat) : Int))).drew := Below.drew (Ext.refl _)
        have HOT2 := Lib.hid (own_ext hoT2 hd)
        have HOL2 := Lib.hid (own_ext hoL2 hd)
        have HE2 := Lib.hid (Ext.trans hE2 hd)
        clear cx cA3 cpi cti cT fT hor HOT HOL HE hoT2 hoL2 hE2 hd
        generalize (wr.setCell ⟨T, pn i, none⟩ (.int .i64 ((orUp pn bs i (pn i) ||| bs i : Nat) : Int))).drew = W2 at *
        generalize orUp pn bs i (pn i) ||| bs i = o1 at *
        generalize orUp pn bs i (pn i) = o2 at *
        generalize bs i = o3 at *
        go_wp2_with fail
        obtain ⟨wo, rfl⟩ : ∃ wo : World, wo = wr := ⟨_, rfl⟩
        obtain ⟨G0, rfl⟩ : ∃ G0 : Nat, G0 = gk := ⟨_, rfl⟩
        go_loopg [45] l.length (fun m x wi => ∃ k : Nat, m + k = l.length ∧ x = .int .i64 (k : Int) ∧ wi.ownsRow W1.heap.size 4 1 (.slice (some ⟨L, 0, none⟩) n n) n ((lsB n (lpIn pn next i k)).map .bool) ∧
          wi.ownsRow W1.heap.size 3 1 (.slice (some ⟨T, 0, none⟩) n n) n ((lst n (orUp pn bs (i + 1))).map (.int .i64)) ∧ Ext W1 wi)
        case atStart => exact ⟨0, by omega, by go_num, by rw [lpIn_zero]; exact HOL2.out, HOT2.out, HE2.out⟩
        case round =>
          obtain ⟨k, hmk, rfl, hoL, hoT, hE⟩ := hrel
          clear HOL2 HOT2 HE2
          have HMK := Lib.hid hmk
          have HOT := Lib.hid hoT
          have HOL := Lib.hid hoL
          have HE := Lib.hid hE
          by_cases hk : k < l.length
          · obtain ⟨bi, oi, hri1, hri2⟩ := ints_cells HRI.out
            obtain rfl := hri1 (by omega)
            obtain ⟨hz0, hz1⟩ := HLI.out l[k] (by simp)
            obtain ⟨z, hz⟩ : ∃ z : Nat, l[k] = (z : Int) := ⟨l[k].toNat, by omega⟩
            have hEW := HA.out.trans hE
            have ck := cell_later hEW (hri2 k hk)
            rw [hz] at ck hz0 hz1
            have hzn : z < n := by omega
            have HLK := Lib.hid (show (nbs next i)[k]? = some (z : Int) by rw [HNB.out, List.getElem?_eq_getElem hk, hz])
            have cpz := cell_later hEW (HPC.out z hzn)
            have cpi := cell_later hEW (HPC.out i hin)
            have hzI : (z : Int) < (n : Int) := by omega
            have hkI : (k : Int) < (l.length : Int) := by omega
            have hk0 : (0 : Int) ≤ (k : Int) := by omega
            have cL := hd_at hoL (lsB_get n (lpIn pn next i k) hpi)
            have fL := own_freeAt hoL (pn i)
            clear hri1 hri2 hz hEW hmk hoL hoT hE
            by_cases hpz : pn z = pn i
            · have hzb : ((pn z : Int) == (pn i : Int)) = true := by simp [hpz]
              have HPZ := Lib.hid hpz
              clear hpz
              go_wp2_with fail
              go_quiet (fail)
              obtain ⟨q0, rfl⟩ : ∃ q0 : Nat, q0 = nq := ⟨_, rfl⟩
              have hdq : Ext wr (wr.drewN q0) := below_drewN (Ext.refl _) _
              replace cpi := cell_later hdq cpi
              replace fL : (wr.drewN q0).frozen? ⟨L, pn i, none⟩ = false := (World.frozen?_of_block (hdq.block L (World.block_lt_of_cell? _ _ cL))).trans fL
              replace cL := cell_later hdq cL
              have hoL3 := own_setAt (own_ext HOL.out hdq) (i := pn i) (.bool true)
              rw [set_map_bool, lsB_upd n (lpIn pn next i k) _ hpi, lpIn_yes pn next i k z HLK.out HPZ.out] at hoL3
              have hoT3 := own_setCell (own_ext HOT.out hdq) (p := ⟨L, pn i, none⟩) (.bool true) (fun e => hLT2 (by simpa [Value.ownBlock] using e.symm))
              have hE3 := ext_st (Ext.trans HE.out hdq) (p := ⟨L, pn i, none⟩) hLB (.bool true)
              have HOL3 := Lib.hid hoL3
              have HOT3 := Lib.hid hoT3
              have HE3 := Lib.hid hE3
              clear hoL3 hoT3 hE3 hdq HOL HOT HE
              go_wp2_with fail
              go_roundg (gk - 1)
              case measure => have := HMK.out; omega
              case rel => exact ⟨k + 1, by have := HMK.out; omega, by go_num, HOL3.out, HOT3.out, HE3.out⟩
            · have hzb : ((pn z : Int) == (pn i : Int)) = false := by rw [beq_eq_false_iff_ne]; omega
              have HPZ := Lib.hid hpz
              clear hpz
              go_wp2_with fail
              go_quiet (fail)
              obtain ⟨q0, rfl⟩ : ∃ q0 : Nat, q0 = nq := ⟨_, rfl⟩
              have hdq : Ext wr (wr.drewN q0) := below_drewN (Ext.refl _) _
              have hoL3 := own_ext HOL.out hdq
              rw [lpIn_no pn next i k z HLK.out HPZ.out] at hoL3
              have HOL3 := Lib.hid hoL3
              have HOT3 := Lib.hid (own_ext HOT.out hdq)
              have HE3 := Lib.hid (Ext.trans HE.out hdq)
              clear hoL3 hdq HOL HOT HE
              go_wp2_with fail
              go_roundg (gk - 1)
              case measure => have := HMK.out; omega
              case rel => exact ⟨k + 1, by have := HMK.out; omega, by go_num, HOL3.out, HOT3.out, HE3.out⟩
          · have hkI : ¬ (k : Int) < (l.length : Int) := by omega
            have hkl : k = (nbs next i).length := by rw [HNB.out]; omega
            rw [lpIn_done pn next i k hkl] at hoL
            have HOL := Lib.hid hoL
            clear hoL hoT hE hkl hmk
            go_wp2_with fail
            go_roundg (G0 - 1)
            case measure => have := HMI.out; omega
            case rel => exact ⟨i + 1, by have := HMI.out; omega, by go_num, HOL.out, HOT.out, HE.out⟩
      · have hiI : ¬ (i : Int) < (next.length : Int) := by omega
        have hin : i = n := by have := HN.out; omega
        subst hin
        have hmax : i ≤ maxLen := by unfold maxLen; omega
        have ho3 := World.ownsRow_lit (base := wr.heap.size) (e := 4) wr _ i (Nat.le_refl _) hmax (size_madeCells #[Value.bool false] (i * 1))
        rw [made_falses] at ho3
        have hxo : Ext wr (wr.alloc (falses i)) := ext_al (Ext.refl _) _
        have HO3 := Lib.hid (show (wr.alloc (falses i)).ownsRow wr.heap.size 4 1 (.slice (some ⟨wr.heap.size, 0, none⟩) i i) i ((lsB i fun _ => false).map .bool) from ho3)
        have HXO := Lib.hid hxo
        have hWW : W1.heap.size ≤ wr.heap.size := hE.size
        have hww : w.heap.size < wr.heap.size := by omega
        clear hmi hoL hoT hE bA hEW ho3 hxo
        go_wp2_with fail
        obtain ⟨wo, rfl⟩ : ∃ wo : World, wo = wr := ⟨_, rfl⟩
        go_loopg [70] i (fun m x wi => ∃ k : Nat, m + k = i ∧ x = .int .i64 (k : Int) ∧ wi.ownsRow wo.heap.size 4 1 (.slice (some ⟨wo.heap.size, 0, none⟩) i i) i ((lsB i fun m => if m < k then fairB pn next bs M i m else false).map .bool) ∧ Ext wo wi)
        case atStart => exact ⟨0, by omega, by go_num, by simpa using HO3.out, HXO.out⟩
        case round =>
          obtain ⟨k, hmk, rfl, hoO, hE2⟩ := hrel
          clear HO3 HXO
          have HMK := Lib.hid hmk
          have HOO := Lib.hid hoO
          have HE2 := Lib.hid hE2
          by_cases hk : k < i
          · have hEW := (HA.out.trans HE.out).trans hE2
            obtain rfl := HP1.out (by omega)
            have cpi := cell_later hEW (HPC.out k hk)
            have cL := cell_later hE2 (hd_at HOL.out (lsB_get i (lpUp pn next i) hk))
            have cT := cell_later hE2 (hd_at HOT.out (lst_get i (orUp pn bs i) hk))
            have cO := hd_at hoO (lsB_get i (fun m => if m < k then fairB pn next bs M i m else false) hk)
            have fO := own_freeAt hoO k
            have cA4 := blk_cell (blk_ext (blk_ext BA.out HE.out) hE2) (i := 4) rfl
            have hkI : (k : Int) < (i : Int) := by omega
            have hk0 : (0 : Int) ≤ (k : Int) := by omega
            have HFB := Lib.hid (show fairB pn next bs M i k = (pn k == k && lpUp pn next i k && orUp pn bs i k == 2 ^ M - 1) from rfl)
            have hcm : ((orUp pn bs i k : Int) == PM - 1) = (orUp pn bs i k == 2 ^ M - 1) := by
              rw [Bool.eq_iff_iff, beq_iff_eq, beq_iff_eq, ← HPM.out]
              have := Nat.two_pow_pos M
              omega
            have hcp : ((pn k : Int) == (k : Int)) = (pn k == k) := by
              rw [Bool.eq_iff_iff, beq_iff_eq, beq_iff_eq]
              omega
            have HST := Lib.hid fun b hb => (show (wr.setCell ⟨wo.heap.size, k, none⟩ (.bool b)).drew.ownsRow wo.heap.size 4 1 (.slice (some ⟨wo.heap.size, 0, none⟩) i i) i ((lsB i fun m => if m < k + 1 then fairB pn next bs M i m else false).map .bool) from by
              have h := own_setAt hoO (i := k) (.bool b)
              rw [set_map_bool, lsB_upd i _ _ hk, fair_upd _ k b hb] at h
              exact own_ext h (Below.drew (Ext.refl _)))
            have HES := Lib.hid fun (b : Bool) => Below.drew (ext_st hE2 (p := ⟨wo.heap.size, k, none⟩) (Nat.le_refl _) (.bool b))
            have hmaxM : (M : Int) ≤ 6 := by omega
            clear hmk hoO hE2 hEW
            generalize (if k < k then fairB pn next bs M i k else false) = bO at *
            generalize lpUp pn next i k = bL at *
            generalize (pn k == k) = bP at *
            generalize (orUp pn bs i k == 2 ^ M - 1) = bT at *
            cases bP <;> cases bL <;> cases bT
            all_goals
              go_wp2_with fail
              go_region
              go_wp2_with fail
              go_roundg (gk - 1)
              case measure => have := HMK.out; omega
              case rel => exact ⟨k + 1, by have := HMK.out; omega, by go_num, HST.out _ HFB.out.symm, HES.out _⟩
          · have hkI : ¬ (k : Int) < (i : Int) := by omega
            have hki : k = i := by omega
            have HO := Lib.hid hoO
            have HEW := Lib.hid ((HA.out.trans HE.out).trans hE2)
            clear hmk hoO hE2
            go_wp2
            go_ret
            refine ⟨_, rfl, ?_, HEW.out⟩
            have h := HO.out
            rw [hki, lsB_cut] at h
            exact own_down h (by omega)

end Go.Proofs.YtbmimdnpchldlaaDoor
