/- Several texts in one: XpP; Step; Atl; Term; Gen; PolA; PolB; PolC. No condition. -/
import Derived.Test.YtkkbefhnklpfaaaDoorKp1
import Derived.Laws.IdiomStrings
import Derived.Laws.BytesArg
import Derived.Deep.RegionHeld3
import Derived.Laws.StructEq
import Derived.WalkKit
import Derived.Deep.QuietTactic
import Derived.BigQuiet
import Derived.Deep.RegionLaw
import Derived.Recover
import Derived.RegionTactic
namespace Go.Proofs.YtkkbefhnklpfaaaDoor
open Go.RowKit

/-- Places tell what leads on. -/
def Leads (X : List Sp2) (l : List Int) (ys : List Sp2) : Prop :=
  l.length = ys.length ∧ ∀ (t : Nat) (k : Int) (y : Sp2), l[t]? = some k → ys[t]? = some y → ∃ n : Nat, k = n ∧ X[n]? = some y

theorem Leads.nil (X : List Sp2) : Leads X [] [] := ⟨rfl, by intro t k y h; simp at h⟩
theorem Leads.grow {X : List Sp2} {l : List Int} {ys : List Sp2} (h : Leads X l ys) (Z : List Sp2) : Leads (X ++ Z) l ys := ⟨h.1, fun t k y hk hy => by
  obtain ⟨n, e, hn⟩ := h.2 t k y hk hy
  exact ⟨n, e, by rw [List.getElem?_append_left (List.getElem?_eq_some_iff.1 hn).1]; exact hn⟩⟩
theorem Leads.snoc {X : List Sp2} {l : List Int} {ys : List Sp2} (h : Leads X l ys) {n : Nat} {y : Sp2} (hy : X[n]? = some y) : Leads X (l ++ [(n : Int)]) (ys ++ [y]) := ⟨by simp [h.1], fun t k z hk hz => by
  by_cases ht : t < l.length
  · rw [List.getElem?_append_left ht] at hk
    rw [List.getElem?_append_left (by rw [← h.1]; exact ht)] at hz
    exact h.2 t k z hk hz
  · have e : t = l.length := by have := (List.getElem?_eq_some_iff.1 hk).1; simp at this; omega
    subst e
    rw [List.getElem?_append_right (by omega)] at hk
    rw [List.getElem?_append_right (by rw [h.1]; omega)] at hz
    rw [h.1] at hz
    simp at hk hz
    subst hk; subst hz
    exact ⟨n, rfl, hy⟩⟩

/-- A graph while it is explored: B what leads on, O what may be a spot, I where it begins; X the spots, nx the rows that are whole, cur the row that grows (t of what leads on). -/
structure XInv (B : Sp2 → List Sp2) (O : Sp2 → Prop) (I X : List Sp2) (nx : List (List Int)) (cur : List Int) (t : Nat) : Prop where
  nd : X.Nodup
  pre : X.take I.length = I
  ok : ∀ x ∈ X, O x
  le : nx.length ≤ X.length
  done : ∀ (j : Nat) (l : List Int) (x : Sp2), nx[j]? = some l → X[j]? = some x → Leads X l (B x)
  now : ∀ x, X[nx.length]? = some x → Leads X cur ((B x).take t)
  met : ∀ k, I.length ≤ k → k < X.length → ∃ (j : Nat) (l : List Int), j < k ∧ (nx ++ [cur])[j]? = some l ∧ (k : Int) ∈ l

section
variable {B : Sp2 → List Sp2} {O : Sp2 → Prop} {I X : List Sp2} {nx : List (List Int)} {cur : List Int} {t : Nat}

theorem XInv.start (h : I.Nodup) (ho : ∀ x ∈ I, O x) : XInv B O I I [] [] 0 where
  nd := h
  pre := List.take_length
  ok := ho
  le := Nat.zero_le _
  done := by intro j l x hj; simp at hj
  now := fun x _ => Leads.nil _
  met := fun k h1 h2 => by omega

theorem XInv.ilen (h : XInv B O I X nx cur t) : I.length ≤ X.length := by
  have := congrArg List.length h.pre
  rw [List.length_take] at this
  omega

theorem XInv.old (h : XInv B O I X nx cur t) {x : Sp2} (hx : X[nx.length]? = some x) {y : Sp2} (hy : (B x)[t]? = some y) {n : Nat} (hn : X[n]? = some y) : XInv B O I X nx (cur ++ [(n : Int)]) (t + 1) where
  nd := h.nd
  pre := h.pre
  ok := h.ok
  le := h.le
  done := h.done
  now := fun z hz => by
    obtain rfl : x = z := Option.some.inj (hx.symm.trans hz)
    rw [List.take_add_one, hy]
    exact (h.now _ hx).snoc hn
  met := fun k h1 h2 => by
    obtain ⟨j, l, hj, hl, hk⟩ := h.met k h1 h2
    by_cases e : j < nx.length
    · rw [List.getElem?_append_left e] at hl
      exact ⟨j, l, hj, by rw [List.getElem?_append_left e]; exact hl, hk⟩
    · have e2 : j = nx.length := by have := (List.getElem?_eq_some_iff.1 hl).1; simp at this; omega
      subst e2
      rw [List.getElem?_append_right (by omega)] at hl
      simp at hl
      subst hl
      exact ⟨nx.length, cur ++ [(n : Int)], hj, by simp, List.mem_append_left _ hk⟩

theorem XInv.grow (h : XInv B O I X nx cur t) {x : Sp2} (hx : X[nx.length]? = some x) {y : Sp2} (hy : (B x)[t]? = some y) (hn : y ∉ X) (ho : O y) : XInv B O I (X ++ [y]) nx (cur ++ [(X.length : Int)]) (t + 1) where
  nd := by
    rw [List.nodup_append]
    refine ⟨h.nd, by simp, ?_⟩
    intro a ha b hb e
    simp at hb
    subst hb; subst e
    exact hn ha
  pre := by rw [List.take_append_of_le_length h.ilen]; exact h.pre
  ok := fun z hz => by
    rcases List.mem_append.1 hz with hz | hz
    · exact h.ok z hz
    · simp at hz; subst hz; exact ho
  le := by have := h.le; simp; omega
  done := fun j l z hj hz => by
    have hjl := (List.getElem?_eq_some_iff.1 hj).1
    rw [List.getElem?_append_left (by have := h.le; omega)] at hz
    exact (h.done j l z hj hz).grow _
  now := fun z hz => by
    have hlt := (List.getElem?_eq_some_iff.1 hx).1
    rw [List.getElem?_append_left hlt] at hz
    obtain rfl : x = z := Option.some.inj (hx.symm.trans hz)
    rw [List.take_add_one, hy]
    exact ((h.now _ hx).grow [y]).snoc (by simp)
  met := fun k h1 h2 => by
    by_cases hk : k < X.length
    · obtain ⟨j, l, hj, hl, hk⟩ := h.met k h1 hk
      by_cases e : j < nx.length
      · rw [List.getElem?_append_left e] at hl
        exact ⟨j, l, hj, by rw [List.getElem?_append_left e]; exact hl, hk⟩
      · have e2 : j = nx.length := by have := (List.getElem?_eq_some_iff.1 hl).1; simp at this; omega
        subst e2
        rw [List.getElem?_append_right (by omega)] at hl
        simp at hl
        subst hl
        exact ⟨nx.length, cur ++ [(X.length : Int)], hj, by simp, List.mem_append_left _ hk⟩
    · have e : k = X.length := by simp at h2; omega
      subst e
      have hlt := (List.getElem?_eq_some_iff.1 hx).1
      exact ⟨nx.length, cur ++ [(X.length : Int)], hlt, by simp, by simp⟩

theorem XInv.row (h : XInv B O I X nx cur t) {x : Sp2} (hx : X[nx.length]? = some x) (ht : t = (B x).length) : XInv B O I X (nx ++ [cur]) [] 0 where
  nd := h.nd
  pre := h.pre
  ok := h.ok
  le := by have := (List.getElem?_eq_some_iff.1 hx).1; simp; omega
  done := fun j l z hj hz => by
    by_cases e : j < nx.length
    · rw [List.getElem?_append_left e] at hj
      exact h.done j l z hj hz
    · have e2 : j = nx.length := by have := (List.getElem?_eq_some_iff.1 hj).1; simp at this; omega
      subst e2
      rw [List.getElem?_append_right (by omega)] at hj
      simp at hj
      subst hj
      obtain rfl : x = z := Option.some.inj (hx.symm.trans hz)
      have := h.now _ hx
      rw [ht, List.take_length] at this
      exact this
  now := fun _ _ => Leads.nil _
  met := fun k h1 h2 => by
    obtain ⟨j, l, hj, hl, hk⟩ := h.met k h1 h2
    exact ⟨j, l, hj, by rw [List.getElem?_append_left (by have := (List.getElem?_eq_some_iff.1 hl).1; simpa using this)]; exact hl, hk⟩

/-- The graph when all is explored. -/
structure XDone (B : Sp2 → List Sp2) (O : Sp2 → Prop) (I X : List Sp2) (nx : List (List Int)) : Prop where
  nd : X.Nodup
  pre : X.take I.length = I
  ok : ∀ x ∈ X, O x
  len : nx.length = X.length
  lead : ∀ (j : Nat) (l : List Int) (x : Sp2), nx[j]? = some l → X[j]? = some x → Leads X l (B x)
  reach : ∀ k, k < X.length → ∃ s, s < I.length ∧ Reach nx s k

theorem XInv.last (h : XInv B O I X nx [] 0) (hl : nx.length = X.length) : XDone B O I X nx where
  nd := h.nd
  pre := h.pre
  ok := h.ok
  len := hl
  lead := h.done
  reach := by
    intro k
    induction k using Nat.strongRecOn with
    | ind k ih =>
      intro hk
      by_cases hi : k < I.length
      · exact ⟨k, hi, Reach.refl _⟩
      · obtain ⟨j, l, hj, hl2, hm⟩ := h.met k (by omega) hk
        obtain ⟨s, hs, hr⟩ := ih j hj (by omega)
        have : nx[j]? = some l := by
          by_cases e : j < nx.length
          · rw [List.getElem?_append_left e] at hl2; exact hl2
          · have e2 : j = nx.length := by have := (List.getElem?_eq_some_iff.1 hl2).1; simp at this; omega
            subst e2
            simp at hl2
            subst hl2
            simp at hm
        exact ⟨s, hs, hr.step ⟨l, this, hm⟩⟩

theorem XDone.ilen (h : XDone B O I X nx) : I.length ≤ X.length := by
  have := congrArg List.length h.pre
  rw [List.length_take] at this
  omega

theorem nodup_at {X : List Sp2} (h : X.Nodup) {i j : Nat} {x : Sp2} (hi : X[i]? = some x) (hj : X[j]? = some x) : i = j := by
  obtain ⟨a, ha⟩ := List.getElem?_eq_some_iff.1 hi
  obtain ⟨b, hb⟩ := List.getElem?_eq_some_iff.1 hj
  rw [List.Nodup, List.pairwise_iff_getElem] at h
  rcases Nat.lt_trichotomy i j with q | q | q
  · exact absurd (ha.trans hb.symm) (h i j a b q)
  · exact q
  · exact absurd (hb.trans ha.symm) (h j i b a q)

/-- A step in the graph is a step of what leads on. -/
theorem XDone.edge (h : XDone B O I X nx) {i k : Nat} {x : Sp2} (hx : X[i]? = some x) : Edge nx i k ↔ ∃ y, X[k]? = some y ∧ y ∈ B x := by
  have hi := (List.getElem?_eq_some_iff.1 hx).1
  have hl : nx[i]? = some (nx[i]'(by rw [h.len]; exact hi)) := List.getElem?_eq_getElem _
  have hL := h.lead i _ x hl hx
  constructor
  · rintro ⟨l, h1, h2⟩
    obtain rfl := Option.some.inj (hl.symm.trans h1)
    obtain ⟨t, ht, e⟩ := List.mem_iff_getElem.1 h2
    have hb : t < (B x).length := by rw [← hL.1]; exact ht
    obtain ⟨n, e1, e2⟩ := hL.2 t k (B x)[t] (by rw [List.getElem?_eq_getElem ht, e]) (List.getElem?_eq_getElem hb)
    have : n = k := by omega
    subst this
    exact ⟨_, e2, by simp⟩
  · rintro ⟨y, h1, h2⟩
    obtain ⟨t, ht, e⟩ := List.mem_iff_getElem.1 h2
    have hb : t < (nx[i]'(by rw [h.len]; exact hi)).length := by rw [hL.1]; exact ht
    obtain ⟨n, e1, e2⟩ := hL.2 t _ y (List.getElem?_eq_getElem hb) (by rw [List.getElem?_eq_getElem ht, e])
    obtain rfl := nodup_at h.nd e2 h1
    exact ⟨_, hl, by rw [← e1]; simp⟩

theorem XDone.inside (h : XDone B O I X nx) : Inside X.length nx := by
  intro l hl k hk
  obtain ⟨j, hj, e⟩ := List.mem_iff_getElem.1 hl
  have hx : j < X.length := by rw [← h.len]; exact hj
  have hL := h.lead j l X[j] (by rw [List.getElem?_eq_getElem hj, e]) (List.getElem?_eq_getElem hx)
  obtain ⟨t, ht, e2⟩ := List.mem_iff_getElem.1 hk
  have hb : t < (B X[j]).length := by rw [← hL.1]; exact ht
  obtain ⟨n, e3, e4⟩ := hL.2 t k (B X[j])[t] (by rw [List.getElem?_eq_getElem ht, e2]) (List.getElem?_eq_getElem hb)
  have := (List.getElem?_eq_some_iff.1 e4).1
  omega
end

theorem nodup_boundN : ∀ (n : Nat) {l : List Int}, l.Nodup → (∀ x ∈ l, 0 ≤ x ∧ x < (n : Int)) → l.length ≤ n
  | 0, l, _, h => by
    cases l with
    | nil => simp
    | cons x r => have := h x (by simp); omega
  | n + 1, l, hn, h => by
    by_cases hm : (n : Int) ∈ l
    · have h1 := nodup_boundN n (l := l.erase (n : Int)) (hn.erase _) fun x hx => by
        have h2 := hn.mem_erase_iff.1 hx
        have h3 := h x h2.2
        have h4 := h2.1
        omega
      rw [List.length_erase_of_mem hm] at h1
      omega
    · have h1 := nodup_boundN n hn fun x hx => by
        have h3 := h x hx
        have : x ≠ (n : Int) := fun e => hm (e ▸ hx)
        omega
      omega

/-- Pairs below two bounds that are all different are at most so many. -/
theorem pairs_bound (C N : Nat) {X : List Sp2} (hn : X.Nodup) (hb : ∀ x ∈ X, 0 ≤ x.1 ∧ x.1 < (C : Int) ∧ 0 ≤ x.2 ∧ x.2 < (N : Int)) : X.length ≤ C * N := by
  have h := nodup_boundN (C * N) (l := X.map fun x => x.1 * (N : Int) + x.2) (by
    rw [List.Nodup, List.pairwise_map]
    refine hn.imp_of_mem fun {a b} ha hb' hne e => hne ?_
    have h1 := hb a ha
    have h2 := hb b hb'
    have e1 : a.1 = b.1 := by
      have q1 : (a.1 * (N : Int) + a.2) / (N : Int) = a.1 := by
        rw [Int.add_comm, Int.add_mul_ediv_right _ _ (by omega), Int.ediv_eq_zero_of_lt h1.2.2.1 h1.2.2.2]; omega
      have q2 : (b.1 * (N : Int) + b.2) / (N : Int) = b.1 := by
        rw [Int.add_comm, Int.add_mul_ediv_right _ _ (by omega), Int.ediv_eq_zero_of_lt h2.2.2.1 h2.2.2.2]; omega
      rw [← q1, ← q2, e]
    have e2 : a.2 = b.2 := by rw [e1] at e; omega
    exact Prod.ext e1 e2) (by
    intro z hz
    obtain ⟨x, hx, rfl⟩ := List.mem_map.1 hz
    have h1 := hb x hx
    have hN : (0 : Int) < N := by omega
    refine ⟨by have := Int.mul_nonneg h1.1 (Int.le_of_lt hN); omega, ?_⟩
    have h2 : (x.1 + 1) * (N : Int) ≤ (C : Int) * (N : Int) := Int.mul_le_mul_of_nonneg_right (by omega) (by omega)
    rw [Int.add_mul] at h2
    push_cast
    omega)
  simpa using h

/-- The entries of the map of places. -/
def xL (X : List Sp2) : List (Sp2 × Value) := X.zipIdx.map fun p => (p.1, Value.int .i64 (p.2 : Int))
theorem xL_snoc (X : List Sp2) (y : Sp2) : xL (X ++ [y]) = xL X ++ [(y, .int .i64 (X.length : Int))] := by
  unfold xL
  rw [List.zipIdx_append]
  simp
theorem xL_none {X : List Sp2} {y : Sp2} (h : y ∉ X) : lkp y (xL X) = none := by
  rw [lkp_none]
  intro p hp
  obtain ⟨q, hq, rfl⟩ := List.mem_map.1 hp
  have := (List.mem_zipIdx hq).2.2
  intro e
  exact h (by rw [← e, this]; simp)
theorem xL_some {X : List Sp2} {y : Sp2} (h : y ∈ X) : ∃ n : Nat, X[n]? = some y ∧ lkp y (xL X) = some (.int .i64 (n : Int)) := by
  cases hv : lkp y (xL X) with
  | none =>
    rw [lkp_none] at hv
    obtain ⟨i, hi, e⟩ := List.mem_iff_getElem.1 h
    exact absurd e (hv (X[i], .int .i64 (i : Int)) (List.mem_map.2 ⟨(X[i], i), by rw [List.mem_zipIdx_iff_getElem?]; simp, rfl⟩))
  | some v =>
    obtain ⟨q, hq, e⟩ := List.mem_map.1 (lkp_some hv)
    rw [List.mem_zipIdx_iff_getElem?] at hq
    simp only [Prod.mk.injEq] at e
    obtain ⟨rfl, rfl⟩ := e
    exact ⟨q.2, hq, rfl⟩

end Go.Proofs.YtkkbefhnklpfaaaDoor

namespace Go.Proofs.YtkkbefhnklpfaaaDoor
open Go.RowKit

section
variable {P : Program}

theorem step_append {w : World} {ops : Array Oper} {o : Oper} {a : Act} {K : Act → World → Prop} {Q : Exit → Act → World → Prop} {E : Prop} (hgd : o.guard = none) {s x : Operand} {t : TypeId}
    (ho : o.op = .call { callee := .builtin .append, args := #[s, x], argTypes := #[t, t] })
    {e : TypeId} {z : Value} {size bytes : Nat} (T : SlTy P t e z size bytes) (base : Nat)
    {v : Value} {n : Nat} {xs : List Value} (hs : a.eval s = v) (hown : w.ownsRow base e size v n xs)
    {ao : Option Addr} {m c : Nat} {news : List Value} (hx : a.eval x = .slice ao m c) (hrow : Row w size ao m c news)
    (h1 : ∀ u ∈ news, u.oneCell' = true) (h63 : n + m ≤ maxLen) (hbytes : (n + m) * bytes ≤ 140737488355328) (hbase : base ≤ w.heap.size)
    (h : ∀ v' w', w'.ownsRow base e size v' (n + m) (xs ++ news) → w.grownBy w' v.ownBlock → (v'.ownBlock = v.ownBlock ∨ v'.ownBlock = some w.heap.size) → (v' = .slice none 0 0 ↔ v = .slice none 0 0 ∧ m = 0) →
      K (a.put o.dst v') w') : if Region.wanted o (yielded ops a.tmps) = true then Oper.wp P o a w K Q else E := by
  have hw : Region.wanted o (yielded ops a.tmps) = true := by simp [Region.wanted, hgd]
  rw [if_pos hw]
  obtain ⟨v', w', hr, h2, h3, h4, h5⟩ := run_append_row (P := P) w base (ty := o.type) T v n xs hown ao m c news hrow h1 h63 hbytes hbase
  unfold Oper.wp execOp
  simp only [ho, resolve, invoke, builtin, Sem.run_bind, Sem.run_pure, Result.andThen_ok, List.map_toArray, List.map_cons, List.map_nil, hs, hx, hr]
  exact h v' w' h2 h3 h4 h5

theorem conv_str {w : World} {v : Value} {l : List UInt8} (h : Bytes w v l) {src dst e : TypeId} (hs : P.underlying src = some (.slice e)) (he : P.underlying e = some (.int .u8)) (hd : P.underlying dst = some .string) :
    (convert src dst v).run P w = .ok (.string ⟨l.toArray⟩) w := by
  obtain ⟨a, cap, rfl, hr⟩ := h
  cases a with
  | none =>
    obtain ⟨h1, h2, h3⟩ := hr.none0
    obtain rfl : l = [] := List.eq_nil_of_length_eq_zero h1
    exact run_convert_bytes_nil w src e hs he _ _ dst hd
  | some p =>
    refine run_convert_bytes_back w src dst e p cap l hs he hd fun j hj => ?_
    exact hr.add j _ (by rw [List.getElem?_map, List.getElem?_eq_getElem hj]; rfl)
end

end Go.Proofs.YtkkbefhnklpfaaaDoor

namespace Go.Proofs.YtkkbefhnklpfaaaDoor
open Go.RowKit

def encSp (x : Sp2) : Value := .agg #[.int .i64 x.1, .int .i64 x.2]

set_option maxRecDepth 100000 in
theorem Tryd.spotEq (x y : Sp2) (w : World) : (Op.equalIn 10000 59 (encSp x) (encSp y)).run Tryd.prog w = .ok (decide (x = y)) w := by
  have u3 := Tryd.underlying3
  have a3 := Tryd.isAgg3
  have z3 := Tryd.sizeOf3
  obtain ⟨a, b⟩ := x
  obtain ⟨c, d⟩ := y
  have hS : Tryd.prog.underlying 59 = some (.struct (Tryd.prog.fieldsOf 59)) := by kernel_rfl
  unfold encSp
  rw [show (10000 : Nat) = 9999 + 1 from rfl, run_equalIn_agg w 9999 59 _ _ hS (by kernel_rfl)]
  simp only [Program.fieldsOf, Tryd.underlying59]
  go_simp
  by_cases h1 : a = c <;> by_cases h2 : b = d <;> simp [h1, h2]

section
variable {P : Program} {κ : Type} [DecidableEq κ] {enc : κ → Value} {kt : TypeId}
theorem find_asking (heq : ∀ a b w, (Op.equalIn 10000 kt (enc a) (enc b)).run P w = .ok (decide (a = b)) w) (w : World) (k : κ) : ∀ (es : List MapEntry) (l : List (κ × Value)) (i : Nat), es.map (fun e => (e.key, e.val)) = l.map (fun p => (enc p.1, p.2)) →
    (lkp k l = none → (Instr.findAsking kt (enc k) es i).run P w = .ok none w) ∧ (∀ x, lkp k l = some x → ∃ j, (Instr.findAsking kt (enc k) es i).run P w = .ok (some (j, x)) w)
  | [], [], i, _ => ⟨fun _ => by simp [Instr.findAsking], fun x h => by simp [lkp] at h⟩
  | [], _ :: _, i, h => by simp at h
  | _ :: _, [], i, h => by simp at h
  | e :: es, (n, v) :: l, i, h => by
    simp only [List.map_cons, List.cons.injEq, Prod.mk.injEq] at h
    obtain ⟨⟨hk, hv⟩, ht⟩ := h
    have ih := find_asking heq w k es l (i + 1) ht
    have he : (Op.equal kt (enc k) e.key).run P w = .ok (decide (k = n)) w := by rw [hk]; exact heq k n w
    unfold Instr.findAsking
    simp only [Sem.run_bind, he, Result.andThen_ok]
    by_cases hn : k = n
    · subst hn
      refine ⟨fun h => by simp [lkp] at h, fun x hx => ?_⟩
      simp [lkp] at hx
      subst hx
      exact ⟨i, by simp [hv]⟩
    · simp only [lkp, hn, decide_false, if_false, Bool.false_eq_true]
      exact ih

theorem KeyLaw.asking {fs : Array Field} (hd : P.underlying kt = some (.struct fs)) (hc : ∀ w b k, (Instr.checkKey b 10000 kt (enc k)).run P w = .ok () w)
    (heq : ∀ a b w, (Op.equalIn 10000 kt (enc a) (enc b)).run P w = .ok (decide (a = b)) w) : KeyLaw P kt enc where
  chk := hc
  find w k es l h := by
    have hf := find_asking heq w k es l 0 h
    cases es with
    | nil =>
      cases l with
      | nil => exact ⟨fun _ => by simp [Instr.findKey, run_underlying hd, Result.andThen, Instr.findNow], fun x hx => by simp [lkp] at hx⟩
      | cons p l => simp at h
    | cons e es =>
      have hnow : Instr.findNow (.struct fs) (enc k) (e :: es) 0 = none := by simp [Instr.findNow, Instr.sameNow]
      have hk : (Instr.findKey kt (enc k) (e :: es)).run P w = (Instr.findAsking kt (enc k) (e :: es) 0).run P w := by
        simp only [Instr.findKey, Sem.run_bind, run_underlying hd, Result.andThen_ok, hnow]
      rw [hk]
      exact hf
end

theorem Tryd.chkSp (n : Nat) (b : Bool) (x y : Int) (w : World) : (Instr.checkKey b (n + 1 + 1) 59 (.agg #[.int .i64 x, .int .i64 y])).run Tryd.prog w = .ok () w := by
  have u3 := Tryd.underlying3
  have a3 := Tryd.isAgg3
  have z3 := Tryd.sizeOf3
  have hk : ∀ v w, (Instr.checkKey b (n + 1) 3 (.int .i64 v)).run Tryd.prog w = .ok () w := fun v w => by
    rw [Instr.checkKey]
    simp only [Sem.run_bind, run_underlying u3, Result.andThen_ok, Sem.run_pure]
  rw [Instr.checkKey]
  simp only [Sem.run_bind, run_underlying Tryd.underlying59, Result.andThen_ok]
  rw [← Array.forIn_toList]
  simp only [List.forIn_cons, List.forIn_nil]
  go_simp
theorem Tryd.keySp : KeyLaw Tryd.prog 59 encSp :=
  KeyLaw.asking Tryd.underlying59 (fun w b k => Tryd.chkSp 9998 b k.1 k.2 w) Tryd.spotEq

/-- An atlas: its block, its map, and its rows. -/
structure ABox (τ : Nat → Nat) (B A M : Nat) (w0 w : World) (sp nx st : Value) (ini many : Int) (S : List Sp2) (L : List (List Int)) (T : List Int) : Prop where
  m : GMem τ B w sp nx st S L T
  a : w.heap[A]? = some (.cells #[sp, .int .i64 ini, nx, st, .int .i64 many, .map (some M)] 102 (0, 0))
  mp : MapG encSp w M (xL S)
  alt : A < B
  mlt : M < B
  ne : M ≠ A
  alo : w0.heap.size ≤ A
  mlo : w0.heap.size ≤ M
  e : Ext w0 w

section
variable {τ : Nat → Nat} {B A M : Nat} {w0 w wa w' : World} {sp nx st : Value} {ini many : Int} {S : List Sp2} {L : List (List Int)} {T : List Int}
theorem ABox.ext (h : ABox τ B A M w0 w sp nx st ini many S L T) (hE : Ext w w') : ABox τ B A M w0 w' sp nx st ini many S L T := ⟨h.m.ext hE, blk_ext h.a hE, h.mp.ext hE, h.alt, h.mlt, h.ne, h.alo, h.mlo, h.e.trans hE⟩
end

section
variable {τ : Nat → Nat} {B A M : Nat} {w0 w wa w6 w8 : World} {sp nx st : Value} {ini many : Int} {S : List Sp2} {L : List (List Int)} {T : List Int}
theorem GMem.grown0 (h : GMem τ B w sp nx st S L T) (hg : w.grownBy w6 (some M)) (hM : M < B) : GMem τ B w6 sp nx st S L T := by
  obtain ⟨vs, h1, h2⟩ := h.nx
  have h0 := h.lo M hM
  have key : ∀ t, t ≠ 0 → ∀ b, some M = some b → τ b ≠ t := fun t ht b hb => by injection hb with hb; subst hb; rw [h0]; exact Ne.symm ht
  exact ⟨h.lo, Nat.le_trans h.size hg.size, h.sp.grown hg (key 1 (by omega)), ⟨vs, h1.grown hg (key 2 (by omega)), h2.grown hg (key 3 (by omega))⟩, h.st.grown hg (key 4 (by omega))⟩

theorem ABox.push (h : ABox τ B A M w0 w sp nx st ini many S L T) {s : Sp2} (hm6 : MapG encSp w6 M (xL S ++ [(s, .int .i64 (S.length : Int))])) (hg6 : w.grownBy w6 (some M)) (hal : Ext w6 wa)
    {v' : Value} {n : Nat} {xs : List Value} (ho : w8.ownsRow B 59 2 v' n xs) (hn : n = S.length + 1) (hx : xs = S.flatMap spc ++ spc s) (hg : wa.grownBy w8 sp.ownBlock) (hb : v'.ownBlock = sp.ownBlock ∨ v'.ownBlock = some wa.heap.size) :
    w8.heap[A]? = some (.cells #[sp, .int .i64 ini, nx, st, .int .i64 many, .map (some M)] 102 (0, 0)) ∧
    ∃ τ', ABox τ' B A M w0 (w8.setCell ⟨A, 0, none⟩ v') v' nx st ini many (S ++ [s]) L T ∧ (∀ b, b < w.heap.size → τ' b = τ b) ∧ w.heap.size ≤ (w8.setCell ⟨A, 0, none⟩ v').heap.size ∧
      ∀ (t : Nat) (P : World → Prop), t ≠ 0 → t ≠ 1 → Ent τ t w P → Ent τ' t (w8.setCell ⟨A, 0, none⟩ v') P := by
  have hA := h.alt
  have hM := h.mlt
  have hne := h.ne
  have hal2 := h.alo
  have hml2 := h.mlo
  have hsz0 := h.m.size
  have hs6 := hg6.size
  have hsa := hal.size
  have h6 := h.m.grown0 hg6 hM
  have ha := h6.ext hal
  have hsp := ha.sp.own
  have hlow : ∀ k, k < B → some k ≠ sp.ownBlock := fun k hk e => by have := (hsp.lt k e.symm).1; omega
  have hA6 := blk_grown h.a hg6 (show some A ≠ some M from fun e => by injection e with e; omega)
  have hA8 := blk_grown (blk_ext hA6 hal) hg (hlow A hA)
  have hlo8 := (ha.appSp ho hn hx hg hb).lo A hA
  refine ⟨hA8, tagAt τ wa.heap.size 1, ⟨(ha.appSp ho hn hx hg hb).low (p := ⟨A, 0, none⟩) hA v', blk_set hA8 (i := 0) v', ?_, hA, hM, hne, hal2, hml2, ?_⟩, fun b hb' => tagAt_lt (by omega), ?_, ?_⟩
  · rw [xL_snoc]
    exact ((hm6.ext hal).grown hg (hlow M hM)).set (p := ⟨A, 0, none⟩) (Ne.symm hne) v'
  · have e1 : Ext w0 w6 := Below.grown h.e hg6 h.e.size (fun b hb' => by injection hb' with hb'; omega)
    exact ext_st (Below.grown (e1.trans hal) hg (e1.trans hal).size (fun b hb' => by have := (hsp.lt b hb').1; omega)) (p := ⟨A, 0, none⟩) hal2 v'
  · have := hg.size
    simp
    omega
  · intro t P ht0 ht1 hP
    have p6 := hP.grown hg6 (fun b hb' => by injection hb' with hb'; subst hb'; rw [h.m.lo _ hM]; exact Ne.symm ht0)
    exact ((p6.ext hal).app ha.sp hg (Ne.symm ht1)).set (p := ⟨A, 0, none⟩) (by show tagAt τ wa.heap.size 1 A ≠ t; rw [hlo8]; exact Ne.symm ht0) v'
end

/-- What place answers. -/
def PlaceR (τ : Nat → Nat) (B A M : Nat) (w0 w : World) (nx st : Value) (ini many : Int) (S : List Sp2) (L : List (List Int)) (T : List Int) (s : Sp2) (e : Ending) (w' : World) : Prop :=
  ∃ (n : Nat) (S' : List Sp2) (sp' : Value) (τ' : Nat → Nat), e = .returned (.tuple #[.int .i64 (n : Int), .bool true]) ∧ S'[n]? = some s ∧ (S' = S ∨ s ∉ S ∧ S' = S ++ [s] ∧ n = S.length) ∧
    ABox τ' B A M w0 w' sp' nx st ini many S' L T ∧ (∀ b, b < w.heap.size → τ' b = τ b) ∧ w.heap.size ≤ w'.heap.size ∧ ∀ (t : Nat) (P : World → Prop), t ≠ 0 → t ≠ 1 → Ent τ t w P → Ent τ' t w' P

set_option maxRecDepth 100000 in
set_option maxHeartbeats 4000000 in
theorem place_old (τ : Nat → Nat) (B A M : Nat) (w0 w : World) (sp nx st : Value) (ini many : Int) (S : List Sp2) (L : List (List Int)) (T : List Int) (s : Sp2) (h : ABox τ B A M w0 w sp nx st ini many S L T) (hs : s ∈ S) :
    Calls Tryd.prog 42 #[.pointer (some ⟨A, 0, none⟩), encSp s] w (PlaceR τ B A M w0 w nx st ini many S L T s) := by
  obtain ⟨n, hn, hlk⟩ := xL_some hs
  obtain ⟨s1, s2⟩ := s
  have hx := ext_al (Ext.refl w) (Obj.cells #[.int .i64 s1, .int .i64 s2] 59)
  have hb := blk_new w (Obj.cells #[.int .i64 s1, .int .i64 s2] 59)
  have a5 := blk_cell (blk_ext h.a hx) (i := 5) rfl
  have b0 := blk_cell hb (i := 0) rfl
  have b1 := blk_cell hb (i := 1) rfl
  have HLK := fun k => run_lookup_g (P := Tryd.prog) Tryd.keySp Tryd.underlying100 (h.mp.ext (Ext.trans hx (below_drewN (Ext.refl _) k))) (s1, s2) _ hlk true
  simp only [if_true] at HLK
  have HB := Lib.hid (h.ext hx)
  have HX := Lib.hid hx
  have HN := Lib.hid hn
  unfold encSp at HLK ⊢
  clear h hs hn hlk hx hb
  go_enter Tryd.func42, Tryd.ntmps42
  go_wp2_with fail
  generalize w.alloc (Obj.cells #[.int .i64 s1, .int .i64 s2] 59) = W1 at *
  go_quiet (fail)
  go_wp2
  go_ret2
  have hE : Ext w (W1.drewN nq) := Ext.trans HX.out (below_drewN (Ext.refl _) _)
  exact ⟨n, S, sp, τ, rfl, HN.out, .inl rfl, HB.out.ext (below_drewN (Ext.refl _) _), fun _ _ => rfl, hE.size, fun t P _ _ h => h.ext hE⟩

theorem Tryd.zeroIn (w : World) : (zeroValue 3).run Tryd.prog w = .ok (.int .i64 0) w := by kernel_rfl

set_option maxRecDepth 100000 in
set_option maxHeartbeats 4000000 in
theorem place_new (τ : Nat → Nat) (B A M : Nat) (w0 w : World) (sp nx st : Value) (ini many : Int) (S : List Sp2) (L : List (List Int)) (T : List Int) (s : Sp2) (h : ABox τ B A M w0 w sp nx st ini many S L T) (hs : s ∉ S) (hl : S.length < 20000) :
    Calls Tryd.prog 42 #[.pointer (some ⟨A, 0, none⟩), encSp s] w (PlaceR τ B A M w0 w nx st ini many S L T s) := by
  have hlk := xL_none hs
  obtain ⟨s1, s2⟩ := s
  have hx := ext_al (Ext.refl w) (Obj.cells #[.int .i64 s1, .int .i64 s2] 59)
  have hb := blk_new w (Obj.cells #[.int .i64 s1, .int .i64 s2] 59)
  have a5 := blk_cell (blk_ext h.a hx) (i := 5) rfl
  have b0 := blk_cell hb (i := 0) rfl
  have b1 := blk_cell hb (i := 1) rfl
  have HLK := fun k => run_lookup_gn (P := Tryd.prog) Tryd.keySp Tryd.underlying100 (h.mp.ext (Ext.trans hx (below_drewN (Ext.refl _) k))) (s1, s2) (Tryd.zeroIn _) hlk true
  simp only [if_true] at HLK
  have HB := Lib.hid (h.ext hx)
  have HX := Lib.hid hx
  have HBL := Lib.hid hb
  have HK := Lib.hid hlk
  have HS := Lib.hid hs
  obtain ⟨asp, csp, rfl, _⟩ := id h.m.sp.own.row
  obtain ⟨n, hn⟩ : ∃ n, S.length = n := ⟨_, rfl⟩
  have HN := Lib.hid hn
  rw [hn] at hl HB
  have hne : ((n : Int) == 20000) = false := by rw [beq_eq_false_iff_ne]; omega
  unfold encSp at HLK ⊢
  clear h hs hlk hx hb hn
  go_enter Tryd.func42, Tryd.ntmps42
  go_wp2_with fail
  generalize w.alloc (Obj.cells #[.int .i64 s1, .int .i64 s2] 59) = W1 at *
  go_quiet (fail)
  have hE2 : Ext W1 (W1.drewN nq) := below_drewN (Ext.refl _) _
  have HB2 := Lib.hid (HB.out.ext hE2)
  have HX2 := Lib.hid (Ext.trans HX.out hE2)
  have HBL2 := Lib.hid (blk_ext HBL.out hE2)
  clear hE2 HLK a5 b0 b1 HB HX HBL
  generalize W1.drewN nq = W2 at *
  have a0 := blk_cell HB2.out.a (i := 0) rfl
  have a5 := blk_cell HB2.out.a (i := 5) rfl
  have b0 := blk_cell HBL2.out (i := 0) rfl
  have b1 := blk_cell HBL2.out (i := 1) rfl
  go_wp2_with fail
  refine region_tail 6 (by kernel_rfl) (by kernel_rfl) ?_
  simp only [List.take_succ_cons, List.take_zero, List.drop_succ_cons, List.drop_zero]
  repeat still_step
  try refine wpStill_nil ?_
  go_wp2_with (at_mapUpdate; go_must (refine wpl_update_g Tryd.keySp Tryd.underlying100 rfl rfl (HB2.out.ext (Below.drew (Ext.refl _))).mp rfl rfl HK.out ?_))
  intro w6 hm6 hg6 hs6
  have HM6 := Lib.hid hm6
  have HG6 := Lib.hid hg6
  have HB3 := Lib.hid (HB2.out.ext (Below.drew (Ext.refl _)))
  have HX3 := Lib.hid (HX2.out.trans (Below.drew (Ext.refl _)))
  have hne2 := HB2.out.ne
  have hlt2 := HB2.out.alt
  have hA6 := blk_grown HB3.out.a hg6 (show some A ≠ some M from fun e => by injection e with e; omega)
  have hZM : w.heap.size ≠ M := fun e => by
    have h1 := HB2.out.mp
    obtain ⟨es, ck, h1, _⟩ := h1
    rw [← e, HBL2.out] at h1
    cases h1
  have hB6 := blk_grown (blk_ext HBL2.out (Below.drew (Ext.refl _))) hg6 (show some w.heap.size ≠ some M from fun e => by injection e with e; omega)
  have a0 := blk_cell hA6 (i := 0) rfl
  have b0 := blk_cell hB6 (i := 0) rfl
  have b1 := blk_cell hB6 (i := 1) rfl
  have hal := ext_al (Ext.refl w6) (Obj.cells #[.int .i64 s1, .int .i64 s2] 59)
  have cX := blk_cell (blk_ext hA6 hal) (i := 0) rfl
  have HAL := Lib.hid (show Ext w6 (w6.alloc (Obj.cells #[.int .i64 s1, .int .i64 s2] 59)).drew from Below.drew hal)
  have hsz6 := hg6.size
  have HSP := Lib.hid ((HB3.out.m.grown0 hg6 HB2.out.mlt).ext HAL.out).sp.own
  have hszB := HB3.out.m.size
  rw [HN.out] at HSP
  clear hm6 hg6 hs6 hA6 hB6 hal
  go_wp2_with fail
  go_region_law (refine step_append rfl rfl Tryd.slSpots B (by rfl) HSP.out (by rfl) ((Row.newSp _ _ _ _).ext (Below.drew (Ext.refl _))) (by intro u hu; simp only [spc, List.mem_cons, List.not_mem_nil, or_false] at hu; rcases hu with rfl | rfl <;> rfl) (by unfold maxLen; omega) (by omega) (by simp; omega) ?_
                 intro v8 w8 hown8 hg8 hb8 _
                 obtain ⟨hA8, τ8, hB8, ht8, hs8, hk8⟩ := HB3.out.push (s := (s1, s2)) (by rw [HN.out]; exact HM6.out) HG6.out HAL.out hown8 (by rw [HN.out]) rfl hg8 hb8
                 obtain ⟨a8, c8, rfl, _⟩ := hown8.row
                 have cG8 := blk_cell hA8 (i := 0) rfl
                 have fG8 := blk_free hA8 0
                 have HB8 := Lib.hid hB8
                 have HT8 := Lib.hid ht8
                 have HS8 := Lib.hid hs8
                 have HK8 := Lib.hid hk8
                 clear hA8 hB8 ht8 hs8 hk8 hown8 hg8 hb8)
  all_goals
    go_wp2
    go_ret2
    have hsz := HX3.out.size
    exact ⟨n, S ++ [(s1, s2)], _, τ8, rfl, by rw [← HN.out]; simp, .inr ⟨HS.out, rfl, HN.out.symm⟩, HB8.out, fun b hb => HT8.out b (by omega), by have := HS8.out; omega, fun t P h0 h1 hP => HK8.out t P h0 h1 (hP.ext HX3.out)⟩

end Go.Proofs.YtkkbefhnklpfaaaDoor

namespace Go.Proofs.YtkkbefhnklpfaaaDoor

/-- An op: its kind, its value. -/
abbrev Op2 := Int × Int

def partsOf (k : Int) : Nat :=
  if k = 3 ∨ k = 4 ∨ k = 5 ∨ k = 6 ∨ k = 7 ∨ k = 8 ∨ k = 9 ∨ k = 15 ∨ k = 16 then 2
  else if k = 10 ∨ k = 14 ∨ k = 17 ∨ k = 18 then 1 else 0

/-- (*reader).skip: where what begins at a place ends, or what it panics with; and the table. -/
def loopL (rec : Nat → List Int → (Except Int Nat) × List Int) : Nat → Nat → List Int → (Except Int Nat) × List Int
  | 0, e, es => (.ok e, es)
  | n + 1, e, es => match rec e es with
    | (.ok e', es') => loopL rec n e' es'
    | r => r

def closeL (p : Nat) : (Except Int Nat) × List Int → (Except Int Nat) × List Int
  | (.ok e, es) => (.ok e, es.set p (e : Int))
  | r => r

def skipL (l : List Op2) : Nat → Nat → List Int → (Except Int Nat) × List Int
  | 0, _, es => (.error 4, es)
  | f + 1, at', es =>
    if h : at' < l.length then
      if 1 ≤ l[at'].1 ∧ l[at'].1 ≤ 18 then
        closeL at' (loopL (skipL l f) (partsOf l[at'].1) (at' + 1) es)
      else (.error 13, es)
    else (.error 4, es)

/-- polish.Ends: the table, or the errno. -/
def endsL (l : List Op2) : Except Int (List Int) :=
  if l.length > 60 then .error 1
  else match skipL l (l.length + 1) 0 (List.replicate l.length 0) with
    | (.ok n, es) => if n = l.length then .ok es else .error 3
    | (.error c, _) => .error c

/-- Terms as trees. -/
inductive Tm where
  | n0 (k v : Int)
  | n1 (k v : Int) (a : Tm)
  | n2 (k v : Int) (a b : Tm)

def Tm.flat : Tm → List Op2
  | .n0 k v => [(k, v)]
  | .n1 k v a => (k, v) :: a.flat
  | .n2 k v a b => (k, v) :: (a.flat ++ b.flat)

def Tm.size : Tm → Nat
  | .n0 _ _ => 1
  | .n1 _ _ a => a.size + 1
  | .n2 _ _ a b => a.size + b.size + 1

theorem Tm.flat_len (t : Tm) : t.flat.length = t.size := by
  induction t with
  | n0 => rfl
  | n1 k v a ih => simp [flat, size, ih]
  | n2 k v a b ih1 ih2 => simp [flat, size, ih1, ih2]

theorem Tm.size_pos (t : Tm) : 0 < t.size := by cases t <;> simp [size]

/-- Each op has as many parts as its kind has. -/
def Tm.ok : Tm → Prop
  | .n0 k _ => 1 ≤ k ∧ k ≤ 18 ∧ partsOf k = 0
  | .n1 k _ a => 1 ≤ k ∧ k ≤ 18 ∧ partsOf k = 1 ∧ a.ok
  | .n2 k _ a b => 1 ≤ k ∧ k ≤ 18 ∧ partsOf k = 2 ∧ a.ok ∧ b.ok

/-- The ends of a term that begins at p, place by place. -/
def Tm.ends : Tm → Nat → List Int
  | .n0 _ _, p => [(p : Int) + 1]
  | .n1 _ _ a, p => ((p + 1 + a.size : Nat) : Int) :: a.ends (p + 1)
  | .n2 _ _ a b, p => ((p + 1 + a.size + b.size : Nat) : Int) :: (a.ends (p + 1) ++ b.ends (p + 1 + a.size))

theorem Tm.ends_len (t : Tm) : ∀ p, (t.ends p).length = t.size := by
  induction t with
  | n0 => intro p; rfl
  | n1 k v a ih => intro p; simp [ends, size, ih]
  | n2 k v a b ih1 ih2 => intro p; simp [ends, size, ih1, ih2]

theorem skip_term (t : Tm) (ht : t.ok) : ∀ (pre post : List Op2) (f : Nat) (ea em eb : List Int), (pre ++ t.flat ++ post).length < pre.length + f → ea.length = pre.length → em.length = t.size →
    skipL (pre ++ t.flat ++ post) f pre.length (ea ++ em ++ eb) = (.ok (pre.length + t.size), ea ++ t.ends pre.length ++ eb) := by
  induction t with
  | n0 k v =>
    intro pre post f ea em eb hf ha hm
    obtain ⟨h1, h2, h3⟩ := ht
    cases f with
    | zero => simp only [List.length_append] at hf; omega
    | succ f =>
      have hl : pre.length < (pre ++ Tm.flat (.n0 k v) ++ post).length := by simp [Tm.flat]
      have hg : (pre ++ Tm.flat (.n0 k v) ++ post)[pre.length] = (k, v) := by simp [Tm.flat]
      unfold skipL
      rw [dif_pos hl, hg]
      simp only [h1, h2, h3, and_self, if_true, loopL, closeL, Tm.size, Tm.ends]
      obtain ⟨x, rfl⟩ := List.length_eq_one_iff.1 hm
      simp [ha]
  | n1 k v a ih =>
    intro pre post f ea em eb hf ha hm
    obtain ⟨h1, h2, h3, h4⟩ := ht
    cases f with
    | zero => simp only [List.length_append] at hf; omega
    | succ f =>
      have hl : pre.length < (pre ++ Tm.flat (.n1 k v a) ++ post).length := by simp [Tm.flat]
      have hg : (pre ++ Tm.flat (.n1 k v a) ++ post)[pre.length] = (k, v) := by simp [Tm.flat]
      cases em with
      | nil => simp [Tm.size] at hm
      | cons x em =>
        have e1 : pre ++ Tm.flat (.n1 k v a) ++ post = (pre ++ [(k, v)]) ++ a.flat ++ post := by simp [Tm.flat]
        have e2 : ea ++ (x :: em) ++ eb = (ea ++ [x]) ++ em ++ eb := by simp
        have := ih h4 (pre ++ [(k, v)]) post f (ea ++ [x]) em eb (by rw [e1] at hf; simp at hf ⊢; omega) (by simp [ha]) (by simpa [Tm.size] using hm)
        unfold skipL
        rw [dif_pos hl, hg]
        simp only [h1, h2, h3, and_self, if_true, loopL]
        rw [e1, e2]
        rw [show pre.length + 1 = (pre ++ [(k, v)]).length by simp, this]
        simp only [closeL]
        simp [Tm.size, Tm.ends, ha]
        omega
  | n2 k v a b ih1 ih2 =>
    intro pre post f ea em eb hf ha hm
    obtain ⟨h1, h2, h3, h4, h5⟩ := ht
    cases f with
    | zero => simp only [List.length_append] at hf; omega
    | succ f =>
      have hl : pre.length < (pre ++ Tm.flat (.n2 k v a b) ++ post).length := by simp [Tm.flat]
      have hg : (pre ++ Tm.flat (.n2 k v a b) ++ post)[pre.length] = (k, v) := by simp [Tm.flat]
      cases em with
      | nil => simp [Tm.size] at hm
      | cons x em =>
        have hm' : em.length = a.size + b.size := by simpa [Tm.size] using hm
        have e1 : pre ++ Tm.flat (.n2 k v a b) ++ post = (pre ++ [(k, v)]) ++ a.flat ++ (b.flat ++ post) := by simp [Tm.flat]
        have e1' : (pre ++ [(k, v)]) ++ a.flat ++ (b.flat ++ post) = (pre ++ [(k, v)] ++ a.flat) ++ b.flat ++ post := by simp
        have e2 : ea ++ (x :: em) ++ eb = (ea ++ [x]) ++ em.take a.size ++ (em.drop a.size ++ eb) := by
          simp only [List.append_assoc, List.cons_append, List.nil_append]
          rw [← List.append_assoc (List.take a.size em), List.take_append_drop]
        have g1 := ih1 h4 (pre ++ [(k, v)]) (b.flat ++ post) f (ea ++ [x]) (em.take a.size) (em.drop a.size ++ eb) (by rw [e1] at hf; simp at hf ⊢; omega) (by simp [ha]) (by simp; omega)
        have g2 := ih2 h5 (pre ++ [(k, v)] ++ a.flat) post f (ea ++ [x] ++ a.ends (pre ++ [(k, v)]).length) (em.drop a.size) eb (by rw [e1, e1'] at hf; simp at hf ⊢; omega) (by simp [ha, Tm.ends_len, Tm.flat_len]) (by simp; omega)
        unfold skipL
        rw [dif_pos hl, hg]
        simp only [h1, h2, h3, and_self, if_true, loopL]
        rw [e1, e2, show pre.length + 1 = (pre ++ [(k, v)]).length by simp, g1]
        simp only []
        rw [e1']
        have e3 : ea ++ [x] ++ a.ends (pre ++ [(k, v)]).length ++ (em.drop a.size ++ eb) = (ea ++ [x] ++ a.ends (pre ++ [(k, v)]).length) ++ em.drop a.size ++ eb := by simp
        have e4 : (pre ++ [(k, v)] ++ a.flat).length = pre.length + 1 + a.size := by simp [Tm.flat_len]; omega
        have e5 : (pre ++ [(k, v)]).length = pre.length + 1 := by simp
        rw [e4, e5] at g2
        rw [e3, e5, g2]
        simp only [closeL]
        refine Prod.ext ?_ ?_
        · simp [Tm.size]; omega
        · simp [Tm.ends, ha]

theorem ends_term (t : Tm) (ht : t.ok) (hs : t.size ≤ 60) : endsL t.flat = .ok (t.ends 0) := by
  have h := skip_term t ht [] [] (t.flat.length + 1) [] (List.replicate t.flat.length 0) [] (by simp) rfl (by simp [Tm.flat_len])
  simp only [List.nil_append, List.append_nil, List.length_nil, Nat.zero_add] at h
  unfold endsL
  rw [if_neg (by rw [Tm.flat_len]; omega), h]
  simp [Tm.flat_len]

end Go.Proofs.YtkkbefhnklpfaaaDoor

namespace Go.Proofs.YtkkbefhnklpfaaaDoor

def rawAt (raw : List Op2) (p : Nat) : Op2 := raw.getD p (0, 0)

def numLeaf (r : Op2) (vars k : Int) : Tm := if k = 1 ∧ 0 < vars then .n0 2 (pk r.2 vars) else .n0 1 (pk r.2 9 - 4)
def numKind (r : Op2) (p : Nat) : Int := if 14 < p + 1 then pk r.1 2 else pk r.1 5

def numT (raw : List Op2) (vars : Int) : Nat → Nat → Tm × Nat
  | 0, p => (numLeaf (rawAt raw p) vars (pk (rawAt raw p).1 2), p + 1)
  | d + 1, p =>
    if numKind (rawAt raw p) p < 2 then (numLeaf (rawAt raw p) vars (numKind (rawAt raw p) p), p + 1)
    else (.n2 (numKind (rawAt raw p) p + 1) 0 (numT raw vars d (p + 1)).1 (numT raw vars d (numT raw vars d (p + 1)).2).1, (numT raw vars d (numT raw vars d (p + 1)).2).2)

def truKind (r : Op2) (d p : Nat) : Int := if d = 0 ∨ 10 < p + 1 then pk r.1 3 else pk r.1 9

/-- A comparison of two numbers. -/
def cmpT (raw : List Op2) (vars k : Int) (p : Nat) : Tm × Nat :=
  (.n2 (6 + k % 2) 0 (numT raw vars 1 (p + 1)).1 (numT raw vars 1 (numT raw vars 1 (p + 1)).2).1, (numT raw vars 1 (numT raw vars 1 (p + 1)).2).2)

def truT (raw : List Op2) (vars : Int) : Nat → Nat → Tm × Nat
  | 0, p =>
    if truKind (rawAt raw p) 0 p = 0 then (.n0 (11 + pk (rawAt raw p).2 2) 0, p + 1)
    else cmpT raw vars (truKind (rawAt raw p) 0 p) p
  | d + 1, p =>
    if truKind (rawAt raw p) (d + 1) p = 0 then (.n0 (11 + pk (rawAt raw p).2 2) 0, p + 1)
    else if truKind (rawAt raw p) (d + 1) p < 5 then cmpT raw vars (truKind (rawAt raw p) (d + 1) p) p
    else if truKind (rawAt raw p) (d + 1) p = 5 then (.n1 10 0 (truT raw vars d (p + 1)).1, (truT raw vars d (p + 1)).2)
    else (.n2 (8 + truKind (rawAt raw p) (d + 1) p % 2) 0 (truT raw vars d (p + 1)).1 (truT raw vars d (truT raw vars d (p + 1)).2).1, (truT raw vars d (truT raw vars d (p + 1)).2).2)

/-! What is made: as many ops as raw ones are taken; each op has its parts; not too many. -/
theorem numKind_bd (r : Op2) (p : Nat) : 0 ≤ numKind r p ∧ numKind r p < 5 := by
  unfold numKind
  have h1 := pk_bd r.1 2 (by omega)
  have h2 := pk_bd r.1 5 (by omega)
  split <;> omega

theorem numLeaf_size (r : Op2) (vars k : Int) : (numLeaf r vars k).size = 1 := by unfold numLeaf; split <;> rfl

theorem numT_size (raw : List Op2) (vars : Int) : ∀ d p, (numT raw vars d p).2 = p + (numT raw vars d p).1.size := by
  intro d
  induction d with
  | zero => intro p; simp [numT, numLeaf_size]
  | succ d ih =>
    intro p
    unfold numT
    split
    · simp [numLeaf_size]
    · have h1 := ih (p + 1)
      have h2 := ih (numT raw vars d (p + 1)).2
      simp only [Tm.size]
      omega

theorem numT_one (raw : List Op2) (vars : Int) (p : Nat) : ((numT raw vars 1 p).1.size = 1 ∨ (numT raw vars 1 p).1.size = 3) ∧ (14 ≤ p → (numT raw vars 1 p).1.size = 1) := by
  unfold numT
  split
  · simp [numLeaf_size]
  · refine ⟨.inr ?_, fun h => ?_⟩
    · simp [Tm.size, numT, numLeaf_size]
    · rename_i h2
      exfalso
      apply h2
      unfold numKind
      rw [if_pos (by omega)]
      exact (pk_bd _ 2 (by omega)).2

theorem numT_two (raw : List Op2) (vars : Int) (p : Nat) : (numT raw vars 2 p).1.size ≤ 7 := by
  rw [numT]
  split
  · simp [numLeaf_size]
  · have h1 := (numT_one raw vars (p + 1)).1
    have h2 := (numT_one raw vars (numT raw vars 1 (p + 1)).2).1
    simp only [Tm.size]
    omega

theorem numLeaf_ok (r : Op2) (vars k : Int) : (numLeaf r vars k).ok := by
  unfold numLeaf
  split <;> simp [Tm.ok, partsOf]

theorem numT_ok (raw : List Op2) (vars : Int) : ∀ d p, (numT raw vars d p).1.ok := by
  intro d
  induction d with
  | zero => intro p; exact numLeaf_ok _ _ _
  | succ d ih =>
    intro p
    unfold numT
    split
    · exact numLeaf_ok _ _ _
    · rename_i h
      have hb := numKind_bd (rawAt raw p) p
      refine ⟨by omega, by omega, ?_, ih _, ih _⟩
      unfold partsOf
      rw [if_pos (by omega)]

theorem truKind_bd (r : Op2) (d p : Nat) : 0 ≤ truKind r d p ∧ truKind r d p < 9 ∧ (d = 0 ∨ 10 ≤ p → truKind r d p < 3) := by
  unfold truKind
  have h1 := pk_bd r.1 3 (by omega)
  have h2 := pk_bd r.1 9 (by omega)
  split <;> omega

theorem cmpT_size (raw : List Op2) (vars k : Int) (p : Nat) : (cmpT raw vars k p).2 = p + (cmpT raw vars k p).1.size := by
  have h1 := numT_size raw vars 1 (p + 1)
  have h2 := numT_size raw vars 1 (numT raw vars 1 (p + 1)).2
  simp only [cmpT, Tm.size]
  omega

theorem truT_size (raw : List Op2) (vars : Int) : ∀ d p, (truT raw vars d p).2 = p + (truT raw vars d p).1.size := by
  intro d
  induction d with
  | zero => intro p; unfold truT; split; (· simp [Tm.size]); · exact cmpT_size _ _ _ _
  | succ d ih =>
    intro p
    unfold truT
    split
    · simp [Tm.size]
    · split
      · exact cmpT_size _ _ _ _
      · have h1 := ih (p + 1)
        have h2 := ih (truT raw vars d (p + 1)).2
        split <;> simp only [Tm.size] <;> omega

theorem cmpT_ok (raw : List Op2) (vars k : Int) (p : Nat) : (cmpT raw vars k p).1.ok := by
  refine ⟨by omega, by omega, ?_, numT_ok _ _ _ _, numT_ok _ _ _ _⟩
  unfold partsOf
  rw [if_pos (by omega)]

theorem truT_ok (raw : List Op2) (vars : Int) : ∀ d p, (truT raw vars d p).1.ok := by
  have leaf : ∀ p, (Tm.n0 (11 + pk (rawAt raw p).2 2) 0).ok := by
    intro p
    have := pk_bd (rawAt raw p).2 2 (by omega)
    refine ⟨by omega, by omega, ?_⟩
    unfold partsOf
    rw [if_neg (by omega), if_neg (by omega)]
  intro d
  induction d with
  | zero => intro p; unfold truT; split; (· exact leaf p); · exact cmpT_ok _ _ _ _
  | succ d ih =>
    intro p
    unfold truT
    split
    · exact leaf p
    · split
      · exact cmpT_ok _ _ _ _
      · split
        · exact ⟨by omega, by omega, by unfold partsOf; simp, ih _⟩
        · refine ⟨by omega, by omega, ?_, ih _, ih _⟩
          unfold partsOf
          rw [if_pos (by omega)]

theorem cmpT_end (raw : List Op2) (vars k : Int) (p : Nat) : (cmpT raw vars k p).2 ≤ p + 7 ∧ (10 ≤ p → (cmpT raw vars k p).2 ≤ p + 5) ∧ (13 ≤ p → (cmpT raw vars k p).2 ≤ p + 3) := by
  have h1 := numT_size raw vars 1 (p + 1)
  have h2 := numT_size raw vars 1 (numT raw vars 1 (p + 1)).2
  obtain ⟨h3, h4⟩ := numT_one raw vars (p + 1)
  obtain ⟨h5, h6⟩ := numT_one raw vars (numT raw vars 1 (p + 1)).2
  simp only [cmpT]
  omega

theorem truT_end (raw : List Op2) (vars : Int) : ∀ d p, (10 ≤ p → (truT raw vars d p).2 ≤ 17 ∨ (truT raw vars d p).2 ≤ p + 3) ∧ (p < 10 → (truT raw vars d p).2 ≤ 17 + 3 * d) := by
  intro d
  induction d with
  | zero =>
    intro p
    unfold truT
    have := cmpT_end raw vars (truKind (rawAt raw p) 0 p) p
    split
    · simp only; omega
    · omega
  | succ d ih =>
    intro p
    have hk := truKind_bd (rawAt raw p) (d + 1) p
    have hc := cmpT_end raw vars (truKind (rawAt raw p) (d + 1) p) p
    have h1 := ih (p + 1)
    have h2 := ih (truT raw vars d (p + 1)).2
    unfold truT
    split
    · simp only; omega
    · split
      · omega
      · split
        · simp only; omega
        · simp only; omega

theorem truT_small (raw : List Op2) (vars : Int) : (truT raw vars 3 0).1.size ≤ 26 := by
  have h1 := (truT_end raw vars 3 0).2 (by omega)
  have h2 := truT_size raw vars 3 0
  omega

end Go.Proofs.YtkkbefhnklpfaaaDoor

namespace Go.Proofs.YtkkbefhnklpfaaaDoor
open Go.RowKit

/-- The table of parts lies as the program's text lays it. -/
def Tab (w : World) : Prop := ∀ k : Nat, 1 ≤ k → k ≤ 18 → w.cell? ⟨0, k, none⟩ = some (.int .i64 (partsOf k))

theorem Tab.ext {w w' : World} (h : Tab w) (hb : Ext w w') : Tab w' := fun k h1 h2 => cell_later hb (h k h1 h2)

theorem Tab.lt {w : World} (h : Tab w) : 0 < w.heap.size := World.block_lt_of_cell? _ _ (h 1 (by omega) (by omega))

set_option maxHeartbeats 400000 in
theorem parts_good (k : Int) (w : World) (ht : Tab w) (h1 : 1 ≤ k) (h2 : k ≤ 18) :
    Calls Tryd.prog 93 #[.int .i64 k] w fun e w' => e = .returned (.tuple #[.int .i64 (partsOf k), .int .i64 0]) ∧ w = w' := by
  obtain ⟨k, rfl⟩ : ∃ n : Nat, k = (n : Int) := ⟨k.toNat, by omega⟩
  have hc := ht k (by omega) (by omega)
  have h3 : (k : Int) < 19 := by omega
  generalize partsOf (k : Int) = p at *
  clear ht
  go_enter Tryd.func93, Tryd.ntmps93
  go_wp2
  go_ret2
  exact ⟨rfl, rfl⟩

set_option maxHeartbeats 400000 in
theorem parts_bad (k : Int) (w : World) (h : k < 1 ∨ 18 < k) :
    Calls Tryd.prog 93 #[.int .i64 k] w fun e w' => e = .returned (.tuple #[.int .i64 0, .int .i64 13]) ∧ w = w' := by
  rcases h with h | h
  all_goals
    go_enter Tryd.func93, Tryd.ntmps93
    go_wp2
    go_ret2
    exact ⟨rfl, rfl⟩

/-- An op as two cells. -/
def opc (o : Op2) : List Value := [.int .i64 o.1, .int .i64 o.2]
def Ops (w : World) (v : Value) (l : List Op2) : Prop := Reads w 2 v l.length (l.flatMap opc)
theorem Ops.ext {w w' : World} {v : Value} {l : List Op2} (h : Ops w v l) (hb : Ext w w') : Ops w' v l := Reads.ext h hb

theorem opc_len (l : List Op2) : (l.flatMap opc).length = 2 * l.length := by
  induction l with
  | nil => rfl
  | cons o l ih => rw [List.flatMap_cons, List.length_append, ih]; simp [opc]; omega

theorem opc_get : ∀ (l : List Op2) (i : Nat) (h : i < l.length), (l.flatMap opc)[2 * i]? = some (.int .i64 l[i].1) ∧ (l.flatMap opc)[2 * i + 1]? = some (.int .i64 l[i].2)
  | o :: l, 0, _ => by simp [opc]
  | o :: l, i + 1, h => by
    have := opc_get l i (by simpa using h)
    rw [List.flatMap_cons]
    have e : (opc o).length = 2 := rfl
    rw [List.getElem?_append_right (by omega), List.getElem?_append_right (by omega), e, show 2 * (i + 1) - 2 = 2 * i by omega, show 2 * (i + 1) + 1 - 2 = 2 * i + 1 by omega]
    simpa using this

theorem Row.ops {w : World} {a : Option Addr} {cap : Nat} {l : List Op2} (h : Row w 2 a l.length cap (l.flatMap opc)) :
    ∃ b off, (0 < l.length → a = some ⟨b, off, none⟩) ∧ ∀ (i : Nat) (hi : i < l.length), w.cell? ⟨b, off + i * 2, none⟩ = some (.int .i64 l[i].1) ∧ w.cell? ⟨b, off + i * 2 + 1, none⟩ = some (.int .i64 l[i].2) := by
  obtain ⟨b, off, _, h2, h3⟩ := h.lie
  refine ⟨b, off, fun hl => h2 (by rw [opc_len]; omega), fun i hi => ?_⟩
  have := opc_get l i hi
  rw [Nat.mul_comm] at this
  exact ⟨h3 _ _ this.1, by rw [Nat.add_assoc]; exact h3 _ _ this.2⟩

/-- What a reader's block holds. -/
structure Rd (w : World) (R g : Nat) (a : Option Addr) (cap : Nat) (l : List Op2) : Prop where
  c0 : w.cell? ⟨R, 0, none⟩ = some (.slice a l.length cap)
  c1 : w.cell? ⟨R, 1, none⟩ = some (.slice (some ⟨g, 0, none⟩) l.length l.length)
  ne : R ≠ g
  row : Row w 2 a l.length cap (l.flatMap opc)
  nerow : ∀ p, a = some p → 0 < l.length → p.block ≠ g
  tab : Tab w
  netab : 0 ≠ g

theorem Rd.grown {w w' : World} {R g : Nat} {a : Option Addr} {cap : Nat} {l : List Op2} (h : Rd w R g a cap l) (hg : w.grownBy w' (some g)) : Rd w' R g a cap l :=
  ⟨hg.cell h.c0 (by simpa using h.ne), hg.cell h.c1 (by simpa using h.ne), h.ne,
   h.row.keep fun p hp hx => hg.block _ (by subst hp; exact h.row.blk hx) (by simpa using h.nerow p hp (by rw [opc_len] at hx; omega)), h.nerow,
   fun k h1 h2 => hg.cell (h.tab k h1 h2) (by simpa using h.netab), h.netab⟩

def EndsRow (w : World) (g n : Nat) (es : List Int) : Prop := w.ownsRow 0 3 1 (.slice (some ⟨g, 0, none⟩) n n) n (es.map (.int .i64))

def errV (c : Int) : Value := .iface 43 (.int .i64 c)

def SkipPost (w : World) (g n : Nat) (r : (Except Int Nat) × List Int) (e : Ending) (w' : World) : Prop :=
  (match r.1 with
    | .ok m => e = .returned (.int .i64 (m : Int))
    | .error c => e = .panicked [{ v := errV c, recovered := false }]) ∧ EndsRow w' g n r.2 ∧ w.grownBy w' (some g)

theorem skipL_bd (l : List Op2) : ∀ (f at' : Nat) (es : List Int), (∀ n, (skipL l f at' es).1 = .ok n → at' < n ∧ n ≤ l.length) ∧ (skipL l f at' es).2.length = es.length := by
  intro f
  induction f with
  | zero => intro at' es; simp [skipL]
  | succ f ih =>
    intro at' es
    have hl : ∀ (k e : Nat) (es : List Int), e ≤ l.length → (∀ n, (loopL (skipL l f) k e es).1 = .ok n → e ≤ n ∧ n ≤ l.length) ∧ (loopL (skipL l f) k e es).2.length = es.length := by
      intro k
      induction k with
      | zero => intro e es he; simp [loopL]; omega
      | succ k ihk =>
        intro e es he
        have h1 := ih e es
        simp only [loopL]
        rcases hr : skipL l f e es with ⟨r, es'⟩
        rw [hr] at h1
        cases r with
        | error c => simpa using h1.2
        | ok n =>
          have h2 := h1.1 n rfl
          have h3 := ihk n es' h2.2
          refine ⟨fun m hm => ?_, by rw [h3.2]; exact h1.2⟩
          have := h3.1 m hm
          omega
    unfold skipL
    split
    · rename_i h
      split
      · have := hl (partsOf l[at'].1) (at' + 1) es (by omega)
        rcases hr : loopL (skipL l f) (partsOf l[at'].1) (at' + 1) es with ⟨r, es'⟩
        rw [hr] at this
        cases r with
        | error c => simpa [closeL] using this.2
        | ok n =>
          have h2 := this.1 n rfl
          simp only [closeL]
          refine ⟨fun m hm => ?_, by simpa using this.2⟩
          simp at hm
          omega
      · simp
    · simp

end Go.Proofs.YtkkbefhnklpfaaaDoor

namespace Go.Proofs.YtkkbefhnklpfaaaDoor
open Go.RowKit

theorem SkipPost.mk {w w' : World} {g n : Nat} {r : (Except Int Nat) × List Int} {e : Ending} (h : match r.1 with
    | .ok m => e = .returned (.int .i64 (m : Int))
    | .error c => e = .panicked [{ v := errV c, recovered := false }]) (h2 : EndsRow w' g n r.2) (h3 : w.grownBy w' (some g)) : SkipPost w g n r e w' := ⟨h, h2, h3⟩

set_option maxRecDepth 100000 in
set_option maxHeartbeats 1000000 in
/-- Behind the last op there is nothing. -/
theorem skip_short (R g cap : Nat) (a : Option Addr) (l : List Op2) (at' : Nat) (es : List Int) (w : World) (hl : l.length ≤ at') (hr : Rd w R g a cap l) (he : EndsRow w g l.length es) :
    Calls Tryd.prog 70 #[.pointer (some ⟨R, 0, none⟩), .int .i64 at'] w (SkipPost w g l.length (.error 4, es)) := by
  have c0 := hr.c0
  have hfin : ∀ e w', (e = .panicked [{ v := errV 4, recovered := false }] ∧ w = w') → SkipPost w g l.length (.error 4, es) e w' := by
    rintro e w' ⟨rfl, rfl⟩
    exact SkipPost.mk rfl he (World.grownBy.refl _ _)
  refine Calls.mono ?_ hfin
  clear hfin he hr
  go_enter Tryd.func70, Tryd.ntmps70
  go_wp2
  exact ⟨rfl, rfl, rfl⟩

set_option maxRecDepth 100000 in
set_option maxHeartbeats 1000000 in
theorem skip_kind (R g cap : Nat) (a : Option Addr) (l : List Op2) (at' : Nat) (es : List Int) (w : World) (hl : at' < l.length) (hb : l.length ≤ 1000) (hr : Rd w R g a cap l) (he : EndsRow w g l.length es) (hk : l[at'].1 < 1 ∨ 18 < l[at'].1) :
    Calls Tryd.prog 70 #[.pointer (some ⟨R, 0, none⟩), .int .i64 at'] w (SkipPost w g l.length (.error 13, es)) := by
  have c0 := hr.c0
  obtain ⟨b, off, ha, hc⟩ := hr.row.ops
  obtain rfl := ha (by omega)
  have k0 := (hc at' hl).1
  have hfin : ∀ e w', (e = .panicked [{ v := errV 13, recovered := false }] ∧ w = w') → SkipPost w g l.length (.error 13, es) e w' := by
    rintro e w' ⟨rfl, rfl⟩
    exact SkipPost.mk rfl he (World.grownBy.refl _ _)
  refine Calls.mono ?_ hfin
  have CP := parts_bad l[at'].1 w hk
  have HCP := Lib.hid CP
  generalize l[at'].1 = k at *
  clear hfin he hr CP hc hk
  go_enter Tryd.func70, Tryd.ntmps70
  go_wp2_with (go_at_call 93; refine (HCP.out).mono ?_; rintro e w' ⟨rfl, rfl⟩)
  exact ⟨rfl, rfl, rfl⟩

set_option maxRecDepth 100000 in
set_option maxHeartbeats 2000000 in
theorem skip_step (R g cap : Nat) (a : Option Addr) (l : List Op2) (at' : Nat) (es : List Int) (w : World) (hl : at' < l.length) (hb : l.length ≤ 1000) (hr : Rd w R g a cap l) (he : EndsRow w g l.length es) (hk1 : 1 ≤ l[at'].1) (hk2 : l[at'].1 ≤ 18)
    (rec : Nat → List Int → (Except Int Nat) × List Int) (hes : es.length = l.length)
    (hbd : ∀ (p : Nat) (es' : List Int), p ≤ l.length → (∀ n, (rec p es').1 = .ok n → p < n ∧ n ≤ l.length) ∧ (rec p es').2.length = es'.length)
    (hrec : ∀ (p : Nat) (es' : List Int) (w' : World), at' < p → p ≤ l.length → es'.length = l.length → Rd w' R g a cap l → EndsRow w' g l.length es' → Calls Tryd.prog 70 #[.pointer (some ⟨R, 0, none⟩), .int .i64 p] w' (SkipPost w' g l.length (rec p es'))) :
    Calls Tryd.prog 70 #[.pointer (some ⟨R, 0, none⟩), .int .i64 at'] w (SkipPost w g l.length (closeL at' (loopL rec (partsOf l[at'].1) (at' + 1) es))) := by
  have c0 := hr.c0
  have c1 := hr.c1
  obtain ⟨b, off, ha, hc⟩ := hr.row.ops
  obtain rfl := ha (by omega)
  have k0 := (hc at' hl).1
  have HCP := Lib.hid (parts_good l[at'].1 w hr.tab hk1 hk2)
  have hpl : partsOf l[at'].1 ≤ 2 := by unfold partsOf; split <;> (try split) <;> omega
  generalize hpp : partsOf l[at'].1 = pp at *
  generalize l[at'].1 = k at *
  generalize hres : loopL rec pp (at' + 1) es = res at *
  have Hres := Lib.hid hres
  generalize hfin : closeL at' res = fin at *
  have Hfin := Lib.hid hfin
  have Hpp := Lib.hid hpp
  have HR := Lib.hid hr
  have HE := Lib.hid he
  have Hes := Lib.hid hes
  have HB := Lib.hid hbd
  have HREC := Lib.hid hrec
  clear hres hfin hpp hc hk1 hk2 hr he hes hbd hrec
  go_enter Tryd.func70, Tryd.ntmps70
  go_wp2_with (go_at_call 93; refine (HCP.out).mono ?_; rintro e w' ⟨rfl, rfl⟩)
  clear HCP
  go_loopw [7, 35] (fun e j wr => ∃ (jj en : Nat) (es' : List Int), jj ≤ pp ∧ j = .int .i64 jj ∧ e = .int .i64 en ∧ at' < en ∧ en ≤ l.length ∧ Hid (es'.length = l.length) ∧ Hid (loopL rec (pp - jj) en es' = res) ∧ Rd wr R g (some ⟨b, off, none⟩) cap l ∧ EndsRow wr g l.length es' ∧ w.grownBy wr (some g)) (fun _ j _ => pp - (intOf j).toNat)
  case atStart => exact ⟨0, at' + 1, es, by omega, rfl, by go_num, by omega, by omega, Hes, Hres, HR.out, HE.out, World.grownBy.refl _ _⟩
  case round =>
    obtain ⟨jj, en, es', hjj, rfl, rfl, hen1, hen2, hes', hlo, hrd, hrow, hgr⟩ := hrel
    clear HR HE Hes Hres
    by_cases hlt : jj < pp
    · go_wp2_with fail
      refine (HREC.out en es' wr hen1 hen2 hes'.out hrd hrow).mono ?_
      have hlo1 : loopL rec (pp - jj) en es' = res := hlo
      rw [show pp - jj = (pp - (jj + 1)) + 1 by omega] at hlo1
      simp only [loopL] at hlo1
      have hb1 := HB.out en es' hen2
      rcases hre : rec en es' with ⟨r1, es1⟩
      rw [hre] at hlo1 hb1
      cases r1 with
      | ok n1 =>
        have hb2 := hb1.1 n1 rfl
        have hb3 : es1.length = es'.length := hb1.2
        have hlo2 : Hid (loopL rec (pp - (jj + 1)) n1 es1 = res) := hlo1
        have hes2 : Hid (es1.length = l.length) := hb3.trans hes'.out
        obtain ⟨hb4, hb5⟩ := hb2
        have Hrd := Lib.hid hrd
        have Hrow := Lib.hid hrow
        have Hgr := Lib.hid hgr
        clear hlo hlo1 hb1 hre hb3 hrd hrow hgr hes'
        rintro e w1 ⟨he1, hrow1, hg1⟩
        obtain rfl : e = .returned (.int .i64 (n1 : Int)) := he1
        have Hrow1 := Lib.hid hrow1
        have Hg1 := Lib.hid hg1
        clear hrow1 hg1
        go_wp2
        go_roundw
        case rel => exact ⟨jj + 1, n1, es1, by omega, by go_num, rfl, by omega, by omega, hes2, hlo2, Hrd.out.grown Hg1.out, Hrow1.out, Hgr.out.trans' Hg1.out⟩
        case measure => simp [intOf]; omega
      | error c =>
        have hlo2 : Hid ((.error c, es1) = res) := hlo1
        have Hgr := Lib.hid hgr
        clear hlo hlo1 hb1 hre hrd hrow hgr hes'
        rintro e w1 ⟨he1, hrow1, hg1⟩
        obtain rfl : e = .panicked [{ v := errV c, recovered := false }] := he1
        have Hrow1 := Lib.hid hrow1
        have Hg1 := Lib.hid hg1
        clear hrow1 hg1
        go_wp2
        refine ⟨rfl, ?_⟩
        rw [← Hfin.out, ← hlo2.out]
        exact SkipPost.mk rfl Hrow1.out (Hgr.out.trans' Hg1.out)
    · obtain rfl : jj = pp := by omega
      have hlo1 : loopL rec (jj - jj) en es' = res := hlo
      rw [Nat.sub_self] at hlo1
      simp only [loopL] at hlo1
      have Hlo := Lib.hid hlo1
      have d0 := hrd.c0
      have d1 := hrd.c1
      have hat : at' < (es'.map (Value.int .i64)).length := by rw [List.length_map, hes'.out]; exact hl
      have hat2 : at' < es'.length := by rw [hes'.out]; exact hl
      have hcell : wr.cell? ⟨g, at', none⟩ = some (.int .i64 es'[at']) := by
        have hrow2 : wr.ownsRow 0 3 1 (.slice (some ⟨g, 0, none⟩) l.length l.length) l.length (es'.map (.int .i64)) := hrow
        rw [hrow2.cellAt at' (by omega), List.getElem?_eq_getElem hat]
        simp
      have hfr : wr.frozen? ⟨g, at', none⟩ = false := World.ownsRow.frozenAt (show wr.ownsRow 0 3 1 (.slice (some ⟨g, 0, none⟩) l.length l.length) l.length (es'.map (.int .i64)) from hrow) at'
      have hst := World.ownsRow.stored (show wr.ownsRow 0 3 1 (.slice (some ⟨g, 0, none⟩) l.length l.length) l.length (es'.map (.int .i64)) from hrow) at' (.int .i64 en)
      rw [← List.map_set] at hst
      have Hst := Lib.hid hst
      have Hgr := Lib.hid hgr
      generalize es'[at'] = old at *
      clear hlo hlo1 hst hgr hrow hrd hat hat2 hes'
      go_wp2
      go_ret
      rw [← Hfin.out, ← Hlo.out]
      exact SkipPost.mk rfl Hst.out.1 (Hgr.out.trans' Hst.out.2)

end Go.Proofs.YtkkbefhnklpfaaaDoor

namespace Go.Proofs.YtkkbefhnklpfaaaDoor
open Go.RowKit

theorem Tryd.slInts : SlTy Tryd.prog 57 3 (.int .i64 0) 1 8 := SlTy.mk' Tryd.underlying57 (by kernel_rfl) (by rfl) (by omega)

theorem skip_any (R g cap : Nat) (a : Option Addr) (l : List Op2) (hb : l.length ≤ 1000) : ∀ (f at' : Nat) (es : List Int) (w : World), l.length < at' + f → es.length = l.length → Rd w R g a cap l → EndsRow w g l.length es →
    Calls Tryd.prog 70 #[.pointer (some ⟨R, 0, none⟩), .int .i64 at'] w (SkipPost w g l.length (skipL l f at' es)) := by
  intro f
  induction f with
  | zero => intro at' es w hf hes hr he; exact skip_short R g cap a l at' es w (by omega) hr he
  | succ f ih =>
    intro at' es w hf hes hr he
    unfold skipL
    split
    · rename_i hl
      split
      · rename_i hk
        exact skip_step R g cap a l at' es w hl hb hr he hk.1 hk.2 (skipL l f) hes (fun p es' _ => skipL_bd l f p es') (fun p es' w' hp _ hes' hr' he' => ih p es' w' (by omega) hes' hr' he')
      · rename_i hk
        exact skip_kind R g cap a l at' es w hl hb hr he (by omega)
    · exact skip_short R g cap a l at' es w (by omega) hr he

/-- Two cells of two blocks are written, nothing else. -/
structure Two (w w' : World) (p q : Addr) (x y : Value) : Prop where
  os : w'.os = w.os
  tape : w'.tape = w.tape
  output : w'.output = w.output
  size : w.heap.size = w'.heap.size
  block : ∀ k, k ≠ p.block → k ≠ q.block → w'.heap[k]? = w.heap[k]?
  c0 : w'.cell? p = some x
  c1 : w'.cell? q = some y

theorem Two.of {w : World} {p q : Addr} {x y v0 z : Value} (hpq : p.block ≠ q.block) (hc : w.cell? p = some v0) (hc2 : w.cell? q = some z) : Two w ((w.setCell p x).setCell q y) p q x y := by
  have hne : q ≠ p := fun e => hpq (by rw [e])
  refine ⟨rfl, rfl, rfl, by simp, fun k h1 h2 => ?_, ?_, ?_⟩
  · rw [Below.heap_setCell _ _ _ _ h2, Below.heap_setCell _ _ _ _ h1]
  · rw [World.cell?_setCell_other (h := hne)]; exact World.cell?_setCell_same _ _ _ hc
  · exact World.cell?_setCell_same _ _ _ (u := z) (by rw [World.cell?_setCell_other (h := (Ne.symm hne))]; exact hc2)

theorem Two.of' {w : World} {p q : Addr} {x y v0 z : Value} (hpq : p.block ≠ q.block) (hc : w.cell? p = some v0) (hc2 : w.cell? q = some z) : Two w ((w.setCell q y).setCell p x) p q x y := by
  have hne : q ≠ p := fun e => hpq (by rw [e])
  refine ⟨rfl, rfl, rfl, by simp, fun k h1 h2 => ?_, ?_, ?_⟩
  · rw [Below.heap_setCell _ _ _ _ h1, Below.heap_setCell _ _ _ _ h2]
  · exact World.cell?_setCell_same _ _ _ (u := v0) (by rw [World.cell?_setCell_other (h := hne)]; exact hc)
  · rw [World.cell?_setCell_other (h := (Ne.symm hne))]; exact World.cell?_setCell_same _ _ _ hc2

theorem Two.drew {w w' : World} {p q : Addr} {x y : Value} (h : Two w w' p q x y) : Two w w'.drew p q x y := ⟨h.os, h.tape, h.output, h.size, h.block, h.c0, h.c1⟩

/-! The deferred closure: of a frame that panics with an errno; of a frame that returns. -/
theorem catch_panicking (p q : Addr) (c z : Int) (v0 : Value) (older : List PanicEntry) (w : World) (hpq : p.block ≠ q.block) (hc : w.cell? p = some v0) (hz : w.frozen? p = false) (hc2 : w.cell? q = some (.int .i64 z)) (hz2 : w.frozen? q = false) :
    CallsD Tryd.prog 69 #[.pointer (some p), .pointer (some q)] (.panicking ({ v := errV c, recovered := false } :: older)) w fun e u' w' =>
      e = .returned (.tuple #[]) ∧ u' = .panicking ({ v := errV c, recovered := true } :: older) ∧ Two w w' p q (.slice none 0 0) (.int .i64 c) := by
  refine callsD_of_wpS Tryd.func69 rfl fun c₀ cs hu => ?_
  apply wpS_seq
  apply wpS_region
  simp [wpOpsS, go_sem, recoverD, hu, Tryd.ntmps69, Exit.thenS]
  refine wpS_of_wp ?_
  rw [show (#[Value.pointer (some p), .pointer (some q)] ++ ((Array.replicate 6 undef).setIfInBounds 1 (errV c)).setIfInBounds 0 (errV c)) = #[.pointer (some p), .pointer (some q), errV c, errV c, undef, undef, undef, undef] from rfl]
  unfold errV
  have hne : p ≠ q := fun e => hpq (by rw [e])
  have hne2 : q ≠ p := Ne.symm hne
  have x1 : (w.setCell p (.slice none 0 0)).cell? q = some (.int .i64 z) := by rw [World.cell?_setCell_other (h := hne)]; exact hc2
  have x2 : (w.setCell q (.int .i64 c)).cell? p = some v0 := by rw [World.cell?_setCell_other (h := hne2)]; exact hc
  have hta : ∀ wx : World, (Instr.typeAssert (.iface 43 (.int .i64 c)) 20 43 false).run Tryd.prog wx = .ok (.int .i64 c) wx := fun _ => by kernel_rfl
  go_wp2
  go_region
  exact ⟨rfl, _, rfl, _, by simp [results, Tryd.results69], rfl, rfl, (Two.of hpq hc hc2).drew⟩

theorem catch_idle (p q : Addr) (w : World) :
    CallsD Tryd.prog 69 #[.pointer (some p), .pointer (some q)] .returning w fun e u' w' => e = .returned (.tuple #[]) ∧ u' = .returning ∧ w = w' := by
  refine callsD_of_wpS Tryd.func69 rfl fun c₀ cs hu => ?_
  apply wpS_seq
  apply wpS_region
  simp [wpOpsS, go_sem, recoverD, hu, Tryd.ntmps69, Exit.thenS]
  refine wpS_of_wp ?_
  go_wp2
  cases c₀
  simp_all [bodyPostS, results, Tryd.results69]

def EndsPost (w : World) (r : Except Int (List Int)) (e : Ending) (w' : World) : Prop :=
  Ext w w' ∧ match r with
    | .ok es => ∃ v', e = .returned (.tuple #[v', .int .i64 0]) ∧ w'.ownsRow w.heap.size 3 1 v' es.length (es.map (.int .i64))
    | .error c => e = .returned (.tuple #[.slice none 0 0, .int .i64 c])

set_option maxRecDepth 100000 in
set_option maxHeartbeats 1000000 in
theorem ends_long (v : Value) (l : List Op2) (w : World) (h : Ops w v l) (hl : 60 < l.length) :
    Calls Tryd.prog 53 #[v] w fun e w' => e = .returned (.tuple #[.slice none 0 0, .int .i64 1]) ∧ Ext w w' := by
  obtain ⟨a, cap, rfl, hr⟩ := h
  have hm : l.length ≤ 9223372036854775807 := by have := hr.le; have := hr.max; unfold maxLen at this; omega
  clear hr
  go_enter_defers Tryd.func53, Tryd.ntmps53
  go_wp2
  simp [bodyPostD, Leaves, results, Tryd.results53, go_sem]
  exact ((Ext.refl w).alloc (Nat.le_refl _) _).alloc (by simp) _

set_option maxRecDepth 100000 in
set_option maxHeartbeats 2000000 in
theorem ends_ok (v : Value) (l : List Op2) (w : World) (h : Ops w v l) (ht : Tab w) (hl : l.length ≤ 60) (es : List Int) (hsk : skipL l (l.length + 1) 0 (List.replicate l.length 0) = (.ok l.length, es)) :
    Calls Tryd.prog 53 #[v] w fun e w' => ∃ v', e = .returned (.tuple #[v', .int .i64 0]) ∧ w'.ownsRow w.heap.size 3 1 v' l.length (es.map (.int .i64)) ∧ Ext w w' := by
  obtain ⟨a, cap, rfl, hr⟩ := h
  have hmf : ∀ (fn : Fn) (first cap : Array Value) (w : World), (Instr.makeFunc fn first cap).run Tryd.prog w = .ok (.func fn first cap) w := fun _ _ _ _ => rfl
  have HT := Lib.hid ht
  have Hr := Lib.hid hr
  have Hsk := Lib.hid hsk
  clear ht hr hsk
  go_enter_defers Tryd.func53, Tryd.ntmps53
  go_wp2_with (at_make; go_must (refine wpList_make_full _ rfl _ _ 57 rfl 0 3 (Tryd.slInts.inf.choose) (.int .i64 0) 1 Tryd.underlying57 Tryd.slInts.inf.choose_spec.1 Tryd.slInts.inf.choose_spec.2.1 Tryd.slInts.inf.choose_spec.2.2.1 .i64 .i64 l.length l.length l.length rfl rfl rfl rfl (by rw [Tryd.slInts.inf.choose_spec.2.2.2]; omega) (by unfold maxLen; omega) (Nat.zero_le _) ?_))
  intro w1 hown hg
  rw [toList_madeCells_one] at hown
  have hE0 : Ext w ((w.alloc (Obj.cells #[.slice none 0 0] 57)).alloc (Obj.cells #[.int .i64 0] 43)) := ((Ext.refl w).alloc (Nat.le_refl _) _).alloc (by simp) _
  have hE1 : Ext w w1 := hE0.grown hg (by simp; omega) (by simp)
  have hs1 : w.heap.size + 1 + 1 < w1.heap.size := (hown.lt _ rfl).2
  have p0 : w1.cell? ⟨w.heap.size, 0, none⟩ = some (.slice none 0 0) := hg.cell (by simp [go_sem]) (by simp)
  have q0 : w1.cell? ⟨w.heap.size + 1, 0, none⟩ = some (.int .i64 0) := hg.cell (by simp [go_sem]) (by simp)
  have pz : w1.frozen? ⟨w.heap.size, 0, none⟩ = false := (World.frozen?_of_block (hg.block w.heap.size (by simp; omega) (by simp))).trans (by simp [go_sem])
  have qz : w1.frozen? ⟨w.heap.size + 1, 0, none⟩ = false := (World.frozen?_of_block (hg.block (w.heap.size + 1) (by simp) (by simp))).trans (by simp [go_sem])
  go_wp2_with fail
  have hrow2 : EndsRow (w1.alloc (Obj.cells #[.slice a l.length cap, .slice (some ⟨w.heap.size + 1 + 1, 0, none⟩) l.length l.length] 141)) (w.heap.size + 1 + 1) l.length (List.replicate l.length 0) := by
    have := hown.alloc (Obj.cells #[.slice a l.length cap, .slice (some ⟨w.heap.size + 1 + 1, 0, none⟩) l.length l.length] 141)
    unfold EndsRow
    simpa using this
  have hE2 : Ext w (w1.alloc (Obj.cells #[.slice a l.length cap, .slice (some ⟨w.heap.size + 1 + 1, 0, none⟩) l.length l.length] 141)) := hE1.alloc (by omega) _
  have hrd : Rd (w1.alloc (Obj.cells #[.slice a l.length cap, .slice (some ⟨w.heap.size + 1 + 1, 0, none⟩) l.length l.length] 141)) w1.heap.size (w.heap.size + 1 + 1) a cap l := by
    refine ⟨by simp [go_sem], by simp [go_sem], by omega, Hr.out.ext hE2, fun p hp hx => ?_, HT.out.ext hE2, by have := HT.out.lt; omega⟩
    subst hp
    have := Hr.out.blk (by rw [opc_len]; omega)
    omega
  have p1 : (w1.alloc (Obj.cells #[.slice a l.length cap, .slice (some ⟨w.heap.size + 1 + 1, 0, none⟩) l.length l.length] 141)).cell? ⟨w.heap.size, 0, none⟩ = some (.slice none 0 0) := by rw [World.cell?_alloc_past _ _ _ (by omega)]; exact p0
  have q1 : (w1.alloc (Obj.cells #[.slice a l.length cap, .slice (some ⟨w.heap.size + 1 + 1, 0, none⟩) l.length l.length] 141)).cell? ⟨w.heap.size + 1, 0, none⟩ = some (.int .i64 0) := by rw [World.cell?_alloc_past _ _ _ (by omega)]; exact q0
  have pz1 : (w1.alloc (Obj.cells #[.slice a l.length cap, .slice (some ⟨w.heap.size + 1 + 1, 0, none⟩) l.length l.length] 141)).frozen? ⟨w.heap.size, 0, none⟩ = false := by rw [World.frozen?_alloc_past _ _ _ (by omega)]; exact pz
  have qz1 : (w1.alloc (Obj.cells #[.slice a l.length cap, .slice (some ⟨w.heap.size + 1 + 1, 0, none⟩) l.length l.length] 141)).frozen? ⟨w.heap.size + 1, 0, none⟩ = false := by rw [World.frozen?_alloc_past _ _ _ (by omega)]; exact qz
  have hs2 : w1.heap.size < (w1.alloc (Obj.cells #[.slice a l.length cap, .slice (some ⟨w.heap.size + 1 + 1, 0, none⟩) l.length l.length] 141)).heap.size := by simp
  generalize w1.alloc (Obj.cells #[.slice a l.length cap, .slice (some ⟨w.heap.size + 1 + 1, 0, none⟩) l.length l.length] 141) = W2 at *
  clear p0 q0 pz qz hown hg hE0 hE1
  refine (skip_any w1.heap.size (w.heap.size + 1 + 1) cap a l (by omega) (l.length + 1) 0 (List.replicate l.length 0) W2 (by omega) (by simp) hrd hrow2).mono ?_
  rw [Hsk.out]
  rintro e w3 ⟨he, hrow3, hg3⟩
  have hE3 : Ext w w3 := hE2.grown hg3 (by omega) (fun k hk => by cases hk; omega)
  have p3 := hg3.cell p1 (by simp; omega)
  have q3 := hg3.cell q1 (by simp)
  have pz3 : w3.frozen? ⟨w.heap.size, 0, none⟩ = false := (World.frozen?_of_block (hg3.block w.heap.size (by omega) (by simp; omega))).trans pz1
  have qz3 : w3.frozen? ⟨w.heap.size + 1, 0, none⟩ = false := (World.frozen?_of_block (hg3.block (w.heap.size + 1) (by omega) (by simp))).trans qz1
  have d1 := (hrd.grown hg3).c1
  have Hrow3 := Lib.hid hrow3
  clear p1 q1 pz1 qz1 hrd hrow2 hrow3 hg3 hE2
  obtain rfl : e = .returned (.int .i64 (l.length : Int)) := he
  go_wp2
  refine leaves_cons (f := 69) (args := #[.pointer (some ⟨w.heap.size, 0, none⟩), .pointer (some ⟨w.heap.size + 1, 0, none⟩)]) (by simp) (by simp [go_sem]) ?_
  refine (catch_idle _ _ _).mono ?_
  rintro e u' w'' ⟨rfl, rfl, rfl⟩
  have hT := Two.of (w := w3) (p := ⟨w.heap.size, 0, none⟩) (q := ⟨w.heap.size + 1, 0, none⟩) (x := .slice (some ⟨w.heap.size + 1 + 1, 0, none⟩) l.length l.length) (y := .int .i64 0) (by simp) p3 q3
  have hrow4 := own_setCell (own_setCell (show w3.ownsRow 0 3 1 (.slice (some ⟨w.heap.size + 1 + 1, 0, none⟩) l.length l.length) l.length (es.map (.int .i64)) from Hrow3.out) (p := ⟨w.heap.size, 0, none⟩) (.slice (some ⟨w.heap.size + 1 + 1, 0, none⟩) l.length l.length) (by simp [Value.ownBlock]; omega)) (p := ⟨w.heap.size + 1, 0, none⟩) (.int .i64 0) (by simp [Value.ownBlock])
  have hE4 : Ext w ((w3.setCell ⟨w.heap.size, 0, none⟩ (.slice (some ⟨w.heap.size + 1 + 1, 0, none⟩) l.length l.length)).setCell ⟨w.heap.size + 1, 0, none⟩ (.int .i64 0)) := (hE3.setCell (by simp) _).setCell (by simp) _
  generalize (w3.setCell ⟨w.heap.size, 0, none⟩ (.slice (some ⟨w.heap.size + 1 + 1, 0, none⟩) l.length l.length)).setCell ⟨w.heap.size + 1, 0, none⟩ (.int .i64 0) = w4 at *
  have r0 := hT.c0
  have r1 := hT.c1
  refine ⟨.tuple #[.slice (some ⟨w.heap.size + 1 + 1, 0, none⟩) l.length l.length, .int .i64 0], ?_, _, rfl, hrow4.weaken (fun k hk => by simp [Value.ownBlock] at hk; omega), hE4⟩
  simp [results, Tryd.results53, go_sem, r0, r1]

set_option maxRecDepth 100000 in
set_option maxHeartbeats 2000000 in
theorem ends_form (v : Value) (l : List Op2) (w : World) (h : Ops w v l) (ht : Tab w) (hl : l.length ≤ 60) (n : Nat) (hn : n ≠ l.length) (es : List Int) (hsk : skipL l (l.length + 1) 0 (List.replicate l.length 0) = (.ok n, es)) :
    Calls Tryd.prog 53 #[v] w fun e w' => e = .returned (.tuple #[.slice none 0 0, .int .i64 3]) ∧ Ext w w' := by
  obtain ⟨a, cap, rfl, hr⟩ := h
  have hmf : ∀ (fn : Fn) (first cap : Array Value) (w : World), (Instr.makeFunc fn first cap).run Tryd.prog w = .ok (.func fn first cap) w := fun _ _ _ _ => rfl
  have HT := Lib.hid ht
  have Hr := Lib.hid hr
  have Hsk := Lib.hid hsk
  clear ht hr hsk
  go_enter_defers Tryd.func53, Tryd.ntmps53
  go_wp2_with (at_make; go_must (refine wpList_make_full _ rfl _ _ 57 rfl 0 3 (Tryd.slInts.inf.choose) (.int .i64 0) 1 Tryd.underlying57 Tryd.slInts.inf.choose_spec.1 Tryd.slInts.inf.choose_spec.2.1 Tryd.slInts.inf.choose_spec.2.2.1 .i64 .i64 l.length l.length l.length rfl rfl rfl rfl (by rw [Tryd.slInts.inf.choose_spec.2.2.2]; omega) (by unfold maxLen; omega) (Nat.zero_le _) ?_))
  intro w1 hown hg
  rw [toList_madeCells_one] at hown
  have hE0 : Ext w ((w.alloc (Obj.cells #[.slice none 0 0] 57)).alloc (Obj.cells #[.int .i64 0] 43)) := ((Ext.refl w).alloc (Nat.le_refl _) _).alloc (by simp) _
  have hE1 : Ext w w1 := hE0.grown hg (by simp; omega) (by simp)
  have hs1 : w.heap.size + 1 + 1 < w1.heap.size := (hown.lt _ rfl).2
  have p0 : w1.cell? ⟨w.heap.size, 0, none⟩ = some (.slice none 0 0) := hg.cell (by simp [go_sem]) (by simp)
  have q0 : w1.cell? ⟨w.heap.size + 1, 0, none⟩ = some (.int .i64 0) := hg.cell (by simp [go_sem]) (by simp)
  have pz : w1.frozen? ⟨w.heap.size, 0, none⟩ = false := (World.frozen?_of_block (hg.block w.heap.size (by simp; omega) (by simp))).trans (by simp [go_sem])
  have qz : w1.frozen? ⟨w.heap.size + 1, 0, none⟩ = false := (World.frozen?_of_block (hg.block (w.heap.size + 1) (by simp) (by simp))).trans (by simp [go_sem])
  go_wp2_with fail
  have hrow2 : EndsRow (w1.alloc (Obj.cells #[.slice a l.length cap, .slice (some ⟨w.heap.size + 1 + 1, 0, none⟩) l.length l.length] 141)) (w.heap.size + 1 + 1) l.length (List.replicate l.length 0) := by
    have := hown.alloc (Obj.cells #[.slice a l.length cap, .slice (some ⟨w.heap.size + 1 + 1, 0, none⟩) l.length l.length] 141)
    unfold EndsRow
    simpa using this
  have hE2 : Ext w (w1.alloc (Obj.cells #[.slice a l.length cap, .slice (some ⟨w.heap.size + 1 + 1, 0, none⟩) l.length l.length] 141)) := hE1.alloc (by omega) _
  have hrd : Rd (w1.alloc (Obj.cells #[.slice a l.length cap, .slice (some ⟨w.heap.size + 1 + 1, 0, none⟩) l.length l.length] 141)) w1.heap.size (w.heap.size + 1 + 1) a cap l := by
    refine ⟨by simp [go_sem], by simp [go_sem], by omega, Hr.out.ext hE2, fun p hp hx => ?_, HT.out.ext hE2, by have := HT.out.lt; omega⟩
    subst hp
    have := Hr.out.blk (by rw [opc_len]; omega)
    omega
  have p1 : (w1.alloc (Obj.cells #[.slice a l.length cap, .slice (some ⟨w.heap.size + 1 + 1, 0, none⟩) l.length l.length] 141)).cell? ⟨w.heap.size, 0, none⟩ = some (.slice none 0 0) := by rw [World.cell?_alloc_past _ _ _ (by omega)]; exact p0
  have q1 : (w1.alloc (Obj.cells #[.slice a l.length cap, .slice (some ⟨w.heap.size + 1 + 1, 0, none⟩) l.length l.length] 141)).cell? ⟨w.heap.size + 1, 0, none⟩ = some (.int .i64 0) := by rw [World.cell?_alloc_past _ _ _ (by omega)]; exact q0
  have pz1 : (w1.alloc (Obj.cells #[.slice a l.length cap, .slice (some ⟨w.heap.size + 1 + 1, 0, none⟩) l.length l.length] 141)).frozen? ⟨w.heap.size, 0, none⟩ = false := by rw [World.frozen?_alloc_past _ _ _ (by omega)]; exact pz
  have qz1 : (w1.alloc (Obj.cells #[.slice a l.length cap, .slice (some ⟨w.heap.size + 1 + 1, 0, none⟩) l.length l.length] 141)).frozen? ⟨w.heap.size + 1, 0, none⟩ = false := by rw [World.frozen?_alloc_past _ _ _ (by omega)]; exact qz
  have hs2 : w1.heap.size < (w1.alloc (Obj.cells #[.slice a l.length cap, .slice (some ⟨w.heap.size + 1 + 1, 0, none⟩) l.length l.length] 141)).heap.size := by simp
  generalize w1.alloc (Obj.cells #[.slice a l.length cap, .slice (some ⟨w.heap.size + 1 + 1, 0, none⟩) l.length l.length] 141) = W2 at *
  clear p0 q0 pz qz hown hg hE0 hE1
  refine (skip_any w1.heap.size (w.heap.size + 1 + 1) cap a l (by omega) (l.length + 1) 0 (List.replicate l.length 0) W2 (by omega) (by simp) hrd hrow2).mono ?_
  rw [Hsk.out]
  rintro e w3 ⟨he, hrow3, hg3⟩
  have hE3 : Ext w w3 := hE2.grown hg3 (by omega) (fun k hk => by cases hk; omega)
  have p3 := hg3.cell p1 (by simp; omega)
  have q3 := hg3.cell q1 (by simp)
  have pz3 : w3.frozen? ⟨w.heap.size, 0, none⟩ = false := (World.frozen?_of_block (hg3.block w.heap.size (by omega) (by simp; omega))).trans pz1
  have qz3 : w3.frozen? ⟨w.heap.size + 1, 0, none⟩ = false := (World.frozen?_of_block (hg3.block (w.heap.size + 1) (by omega) (by simp))).trans qz1
  have d1 := (hrd.grown hg3).c1
  have Hrow3 := Lib.hid hrow3
  clear p1 q1 pz1 qz1 hrd hrow2 hrow3 hg3 hE2
  obtain rfl : e = .returned (.int .i64 (n : Int)) := he
  have hne : ((n : Int) != (l.length : Int)) = true := by rw [bne_iff_ne]; omega
  go_wp2
  refine leaves_cons (f := 69) (args := #[.pointer (some ⟨w.heap.size, 0, none⟩), .pointer (some ⟨w.heap.size + 1, 0, none⟩)]) (by simp) (by simp [go_sem]) ?_
  refine (catch_panicking ⟨w.heap.size, 0, none⟩ ⟨w.heap.size + 1, 0, none⟩ 3 0 _ [] w3 (by simp) p3 pz3 q3 qz3).mono ?_
  rintro e u' w4 ⟨rfl, rfl, hT⟩
  have r0 := hT.c0
  have r1 := hT.c1
  have hE4 : Ext w w4 := Below.trans hE3 ⟨hT.os, hT.tape, hT.output, by rw [hT.size]; exact Nat.le_refl _, fun k hk => hT.block k (by simp; omega) (by simp; omega)⟩
  refine ⟨.tuple #[.slice none 0 0, .int .i64 3], ?_, rfl, hE4⟩
  simp [results, Tryd.results53, go_sem, r0, r1]

set_option maxRecDepth 100000 in
set_option maxHeartbeats 2000000 in
theorem ends_err (v : Value) (l : List Op2) (w : World) (h : Ops w v l) (ht : Tab w) (hl : l.length ≤ 60) (c : Int) (es : List Int) (hsk : skipL l (l.length + 1) 0 (List.replicate l.length 0) = (.error c, es)) :
    Calls Tryd.prog 53 #[v] w fun e w' => e = .returned (.tuple #[.slice none 0 0, .int .i64 c]) ∧ Ext w w' := by
  obtain ⟨a, cap, rfl, hr⟩ := h
  have hmf : ∀ (fn : Fn) (first cap : Array Value) (w : World), (Instr.makeFunc fn first cap).run Tryd.prog w = .ok (.func fn first cap) w := fun _ _ _ _ => rfl
  have HT := Lib.hid ht
  have Hr := Lib.hid hr
  have Hsk := Lib.hid hsk
  clear ht hr hsk
  go_enter_defers Tryd.func53, Tryd.ntmps53
  go_wp2_with (at_make; go_must (refine wpList_make_full _ rfl _ _ 57 rfl 0 3 (Tryd.slInts.inf.choose) (.int .i64 0) 1 Tryd.underlying57 Tryd.slInts.inf.choose_spec.1 Tryd.slInts.inf.choose_spec.2.1 Tryd.slInts.inf.choose_spec.2.2.1 .i64 .i64 l.length l.length l.length rfl rfl rfl rfl (by rw [Tryd.slInts.inf.choose_spec.2.2.2]; omega) (by unfold maxLen; omega) (Nat.zero_le _) ?_))
  intro w1 hown hg
  rw [toList_madeCells_one] at hown
  have hE0 : Ext w ((w.alloc (Obj.cells #[.slice none 0 0] 57)).alloc (Obj.cells #[.int .i64 0] 43)) := ((Ext.refl w).alloc (Nat.le_refl _) _).alloc (by simp) _
  have hE1 : Ext w w1 := hE0.grown hg (by simp; omega) (by simp)
  have hs1 : w.heap.size + 1 + 1 < w1.heap.size := (hown.lt _ rfl).2
  have p0 : w1.cell? ⟨w.heap.size, 0, none⟩ = some (.slice none 0 0) := hg.cell (by simp [go_sem]) (by simp)
  have q0 : w1.cell? ⟨w.heap.size + 1, 0, none⟩ = some (.int .i64 0) := hg.cell (by simp [go_sem]) (by simp)
  have pz : w1.frozen? ⟨w.heap.size, 0, none⟩ = false := (World.frozen?_of_block (hg.block w.heap.size (by simp; omega) (by simp))).trans (by simp [go_sem])
  have qz : w1.frozen? ⟨w.heap.size + 1, 0, none⟩ = false := (World.frozen?_of_block (hg.block (w.heap.size + 1) (by simp) (by simp))).trans (by simp [go_sem])
  go_wp2_with fail
  have hrow2 : EndsRow (w1.alloc (Obj.cells #[.slice a l.length cap, .slice (some ⟨w.heap.size + 1 + 1, 0, none⟩) l.length l.length] 141)) (w.heap.size + 1 + 1) l.length (List.replicate l.length 0) := by
    have := hown.alloc (Obj.cells #[.slice a l.length cap, .slice (some ⟨w.heap.size + 1 + 1, 0, none⟩) l.length l.length] 141)
    unfold EndsRow
    simpa using this
  have hE2 : Ext w (w1.alloc (Obj.cells #[.slice a l.length cap, .slice (some ⟨w.heap.size + 1 + 1, 0, none⟩) l.length l.length] 141)) := hE1.alloc (by omega) _
  have hrd : Rd (w1.alloc (Obj.cells #[.slice a l.length cap, .slice (some ⟨w.heap.size + 1 + 1, 0, none⟩) l.length l.length] 141)) w1.heap.size (w.heap.size + 1 + 1) a cap l := by
    refine ⟨by simp [go_sem], by simp [go_sem], by omega, Hr.out.ext hE2, fun p hp hx => ?_, HT.out.ext hE2, by have := HT.out.lt; omega⟩
    subst hp
    have := Hr.out.blk (by rw [opc_len]; omega)
    omega
  have p1 : (w1.alloc (Obj.cells #[.slice a l.length cap, .slice (some ⟨w.heap.size + 1 + 1, 0, none⟩) l.length l.length] 141)).cell? ⟨w.heap.size, 0, none⟩ = some (.slice none 0 0) := by rw [World.cell?_alloc_past _ _ _ (by omega)]; exact p0
  have q1 : (w1.alloc (Obj.cells #[.slice a l.length cap, .slice (some ⟨w.heap.size + 1 + 1, 0, none⟩) l.length l.length] 141)).cell? ⟨w.heap.size + 1, 0, none⟩ = some (.int .i64 0) := by rw [World.cell?_alloc_past _ _ _ (by omega)]; exact q0
  have pz1 : (w1.alloc (Obj.cells #[.slice a l.length cap, .slice (some ⟨w.heap.size + 1 + 1, 0, none⟩) l.length l.length] 141)).frozen? ⟨w.heap.size, 0, none⟩ = false := by rw [World.frozen?_alloc_past _ _ _ (by omega)]; exact pz
  have qz1 : (w1.alloc (Obj.cells #[.slice a l.length cap, .slice (some ⟨w.heap.size + 1 + 1, 0, none⟩) l.length l.length] 141)).frozen? ⟨w.heap.size + 1, 0, none⟩ = false := by rw [World.frozen?_alloc_past _ _ _ (by omega)]; exact qz
  have hs2 : w1.heap.size < (w1.alloc (Obj.cells #[.slice a l.length cap, .slice (some ⟨w.heap.size + 1 + 1, 0, none⟩) l.length l.length] 141)).heap.size := by simp
  generalize w1.alloc (Obj.cells #[.slice a l.length cap, .slice (some ⟨w.heap.size + 1 + 1, 0, none⟩) l.length l.length] 141) = W2 at *
  clear p0 q0 pz qz hown hg hE0 hE1
  refine (skip_any w1.heap.size (w.heap.size + 1 + 1) cap a l (by omega) (l.length + 1) 0 (List.replicate l.length 0) W2 (by omega) (by simp) hrd hrow2).mono ?_
  rw [Hsk.out]
  rintro e w3 ⟨he, hrow3, hg3⟩
  have hE3 : Ext w w3 := hE2.grown hg3 (by omega) (fun k hk => by cases hk; omega)
  have p3 := hg3.cell p1 (by simp; omega)
  have q3 := hg3.cell q1 (by simp)
  have pz3 : w3.frozen? ⟨w.heap.size, 0, none⟩ = false := (World.frozen?_of_block (hg3.block w.heap.size (by omega) (by simp; omega))).trans pz1
  have qz3 : w3.frozen? ⟨w.heap.size + 1, 0, none⟩ = false := (World.frozen?_of_block (hg3.block (w.heap.size + 1) (by omega) (by simp))).trans qz1
  have d1 := (hrd.grown hg3).c1
  have Hrow3 := Lib.hid hrow3
  clear p1 q1 pz1 qz1 hrd hrow2 hrow3 hg3 hE2
  obtain rfl : e = .panicked [{ v := errV c, recovered := false }] := he
  go_wp2
  refine leaves_cons (f := 69) (args := #[.pointer (some ⟨w.heap.size, 0, none⟩), .pointer (some ⟨w.heap.size + 1, 0, none⟩)]) (by simp) (by simp [go_sem]) ?_
  refine (catch_panicking ⟨w.heap.size, 0, none⟩ ⟨w.heap.size + 1, 0, none⟩ c 0 _ [] w3 (by simp) p3 pz3 q3 qz3).mono ?_
  rintro e u' w4 ⟨rfl, rfl, hT⟩
  have r0 := hT.c0
  have r1 := hT.c1
  have hE4 : Ext w w4 := Below.trans hE3 ⟨hT.os, hT.tape, hT.output, by rw [hT.size]; exact Nat.le_refl _, fun k hk => hT.block k (by simp; omega) (by simp; omega)⟩
  refine ⟨.tuple #[.slice none 0 0, .int .i64 c], ?_, rfl, hE4⟩
  simp [results, Tryd.results53, go_sem, r0, r1]

/-- polish.Ends: the table, or the errno. -/
theorem ends_any (v : Value) (l : List Op2) (w : World) (h : Ops w v l) (ht : Tab w) :
    Calls Tryd.prog 53 #[v] w (EndsPost w (endsL l)) := by
  unfold endsL
  split
  · rename_i hl
    exact (ends_long v l w h hl).mono fun e w' ⟨h1, h2⟩ => ⟨h2, h1⟩
  · rename_i hl
    rcases hsk : skipL l (l.length + 1) 0 (List.replicate l.length 0) with ⟨r, es⟩
    have hbd := skipL_bd l (l.length + 1) 0 (List.replicate l.length 0)
    rw [hsk] at hbd
    cases r with
    | error c => exact (ends_err v l w h ht (by omega) c es hsk).mono fun e w' ⟨h1, h2⟩ => ⟨h2, h1⟩
    | ok n =>
      have hn := hbd.1 n rfl
      have hes : es.length = l.length := by simpa using hbd.2
      by_cases hnl : n = l.length
      · subst hnl
        simp only [if_true]
        refine (ends_ok v l w h ht (by omega) es hsk).mono ?_
        rintro e w' ⟨v', h1, h2, h3⟩
        exact ⟨h3, v', h1, by rw [hes]; exact h2⟩
      · simp only [hnl, if_false]
        exact (ends_form v l w h ht (by omega) n hnl es hsk).mono fun e w' ⟨h1, h2⟩ => ⟨h2, h1⟩

end Go.Proofs.YtkkbefhnklpfaaaDoor
