/- General words: a row that does not begin at its block's head: what append and xs[1:] do with it. No condition on any program. -/
import Derived.Test.YtbndjailimhbdaaTag
import Derived.ArgAppend
namespace Go.Proofs.Ytbndjailimhbdaa
open Go.RowKit

/-- The slice v holds the cells xs in a block of the call's own, from some place on. -/
def OffRow (w : World) (base : Nat) (e : TypeId) (v : Value) (n : Nat) (xs : List Value) : Prop :=
  ∃ g off cap cur, v = .slice (some ⟨g, off, none⟩) n cap ∧ base ≤ g ∧ w.heap[g]? = some (.cells cur e (0, 0)) ∧ xs.length = n ∧ n ≤ cap ∧ cap ≤ maxLen ∧ off + cap ≤ cur.size ∧ ∀ j u, xs[j]? = some u → cur[off + j]? = some u

section
variable {w w' : World} {base : Nat} {e : TypeId} {v : Value} {n : Nat} {xs : List Value}
theorem OffRow.of_own (h : w.ownsRow base e 1 v n xs) (hn : 0 < n) : OffRow w base e v n xs := by
  have hl := h.1
  rw [Nat.mul_one] at hl
  rcases h.2 with ⟨_, h0⟩ | ⟨g, cap, cur, hv, hb, hg, hnc, hcm, hcs, htake⟩
  · omega
  · refine ⟨g, 0, cap, cur, hv, hb, hg, hl, hnc, hcm, by omega, fun j u hu => ?_⟩
    rw [← htake, List.getElem?_take] at hu
    split at hu
    · simpa using hu
    · cases hu
theorem OffRow.ext (h : OffRow w base e v n xs) (hE : Ext w w') : OffRow w' base e v n xs := by
  obtain ⟨g, off, cap, cur, h1, h2, h3, h4⟩ := h
  exact ⟨g, off, cap, cur, h1, h2, blk_ext h3 hE, h4⟩
theorem OffRow.grown {row : Option Nat} (h : OffRow w base e v n xs) (hg : w.grownBy w' row) (hr : ∀ b, row = some b → b < base) : OffRow w' base e v n xs := by
  obtain ⟨g, off, cap, cur, h1, h2, h3, h4⟩ := h
  exact ⟨g, off, cap, cur, h1, h2, blk_grown h3 hg (fun e => by have := hr g e.symm; omega), h4⟩
theorem OffRow.cell {g off cap : Nat} (h : OffRow w base e (.slice (some ⟨g, off, none⟩) n cap) n xs) {j : Nat} {u : Value} (hu : xs[j]? = some u) : w.cell? ⟨g, off + j, none⟩ = some u := by
  obtain ⟨g', off', cap', cur, h1, h2, h3, h4, h5, h6, h7, h8⟩ := h
  simp only [Value.slice.injEq, Option.some.injEq, Addr.mk.injEq] at h1
  obtain ⟨⟨rfl, rfl, -⟩, -, rfl⟩ := h1
  exact blk_cell h3 (h8 j u hu)
theorem OffRow.form (h : OffRow w base e v n xs) : ∃ g off cap, v = .slice (some ⟨g, off, none⟩) n cap ∧ base ≤ g ∧ n ≤ cap ∧ cap ≤ maxLen ∧ g < w.heap.size := by
  obtain ⟨g, off, cap, cur, h1, h2, h3, h4, h5, h6, h7, h8⟩ := h
  exact ⟨g, off, cap, h1, h2, h5, h6, blk_lt h3⟩
/-- All but the first one. -/
theorem OffRow.rest {g off cap : Nat} {x : Value} (h : OffRow w base e (.slice (some ⟨g, off, none⟩) (n + 1) cap) (n + 1) (x :: xs)) : OffRow w base e (.slice (if cap = 1 then some ⟨g, off, none⟩ else some ⟨g, off + 1, none⟩) n (cap - 1)) n xs := by
  obtain ⟨g', off', cap', cur, h1, h2, h3, h4, h5, h6, h7, h8⟩ := h
  simp only [Value.slice.injEq, Option.some.injEq, Addr.mk.injEq] at h1
  obtain ⟨⟨rfl, rfl, -⟩, -, rfl⟩ := h1
  simp only [List.length_cons] at h4
  by_cases hc : cap = 1
  · rw [if_pos hc]
    have hx : xs = [] := List.eq_nil_of_length_eq_zero (by omega)
    subst hx
    exact ⟨g, off, cap - 1, cur, rfl, h2, h3, by simp only [List.length_nil] at h4 ⊢; omega, by omega, by omega, by omega, by intro j u hu; simp at hu⟩
  · rw [if_neg hc]
    exact ⟨g, off + 1, cap - 1, cur, rfl, h2, h3, by omega, by omega, by omega, by omega, fun j u hu => by
      have := h8 (j + 1) u (by simpa using hu)
      rwa [show off + 1 + j = off + (j + 1) by omega]⟩
end

section
variable {P : Program}
theorem run_append_off (w : World) (base : Nat) {t ty e : TypeId} {z : Value} {bytes : Nat} (T : SlTy P t e z 1 bytes) (v : Value) (n : Nat) (xs : List Value) (h : OffRow w base e v n xs)
    (ad : Addr) (c : Nat) (x : Value) (hx : w.cell? ad = some x) (h1 : x.oneCell' = true) (h63 : n + 1 ≤ maxLen) (hbytes : (n + 1) * bytes ≤ 140737488355328) (hbase : base ≤ w.heap.size) :
    ∃ v' w' g, (Builtin.append_ #[t, t] ty #[v, .slice (some ad) 1 c]).run P w = .ok v' w' ∧ OffRow w' base e v' (n + 1) (xs ++ [x]) ∧ base ≤ g ∧ w.grownBy w' (some g) := by
  obtain ⟨i, hi, hz, hsz, hby⟩ := T.inf
  obtain ⟨g, off, cap, cur, rfl, h2, h3, h4, h5, h6, h7, h8⟩ := h
  have hnews : ∀ j u, ([x] : List Value)[j]? = some u → w.cell? (ad.add j) = some u := by
    intro j u hu
    match j, hu with
    | 0, hu =>
      simp at hu
      subst hu
      have : ad.add 0 = ad := by unfold Addr.add; split <;> simp_all
      rw [this]; exact hx
    | j + 1, hu => simp at hu
  by_cases hroom : n + 1 ≤ cap
  · have hin : off + n < cur.size := by omega
    have hr := run_append_room_cells (P := P) w t ty e i T.und hi g off n cap ad 1 c [x] (by rw [hsz]; rfl) hnews (by intro u hu; simp at hu; subst hu; exact h1) hroom (by
      intro j hj
      simp at hj
      subst hj
      rw [hsz, Nat.mul_one, Nat.add_zero, blk_cell h3 (i := off + n) (Array.getElem?_eq_getElem hin)]
      rfl) (by
      intro j hj
      exact blk_free h3 _)
    rw [hsz, Nat.mul_one] at hr
    have hset : w.setCells g (off + n) [x] = w.setCell ⟨g, off + n, none⟩ x := rfl
    rw [hset] at hr
    have hb := blk_set h3 (i := off + n) x
    refine ⟨_, _, g, hr, ⟨g, off, cap, cur.setIfInBounds (off + n) x, rfl, h2, hb, by simp [h4], hroom, h6, by simpa using h7, fun j u hu => ?_⟩, h2, ⟨rfl, rfl, rfl, by simp, fun k hk hn => Below.heap_setCell _ _ _ _ (fun e => hn (by rw [e]))⟩⟩
    by_cases hj : j < n
    · rw [List.getElem?_append_left (by omega)] at hu
      rw [Array.getElem?_setIfInBounds, if_neg (by omega)]
      exact h8 j u hu
    · have e2 : j = n := by have := (List.getElem?_eq_some_iff.1 hu).1; simp at this; omega
      subst e2
      rw [List.getElem?_append_right (by omega), h4] at hu
      simp at hu
      subst hu
      rw [Array.getElem?_setIfInBounds, if_pos rfl, if_pos hin]
  · obtain ⟨v', w', hr, ho, hg⟩ := run_append_arg_grows (P := P) w t ty e i z 1 bytes T.und hi hz hsz hby T.zs (by omega) ⟨g, off, none⟩ n cap xs (by omega) (fun j u hu => by
      rw [Addr.add_lit]
      exact blk_cell h3 (h8 j u hu)) ad 1 c [x] rfl hnews (by omega) h63 hbytes
    exact ⟨v', w', g, hr, (OffRow.of_own (own_down ho hbase) (by omega)), h2, ⟨hg.os, hg.tape, hg.output, hg.size, fun k hk _ => hg.block k hk (by simp)⟩⟩

theorem wpl_append_off {w : World} {ops : Array Oper} {rest : List Oper} {o : Oper} {a : Act} {Q : Exit → Act → World → Prop} (hgd : o.guard = none) {s x : Operand} {t : TypeId}
    (ho : o.op = .call { callee := .builtin .append, args := #[s, x], argTypes := #[t, t] })
    {e : TypeId} {z : Value} {bytes : Nat} (T : SlTy P t e z 1 bytes) (base : Nat)
    {v : Value} {n : Nat} {xs : List Value} (hs : a.eval s = v) (h : OffRow w base e v n xs)
    {ad : Addr} {c : Nat} {u : Value} (hx : a.eval x = .slice (some ad) 1 c) (hu : w.cell? ad = some u)
    (h1 : u.oneCell' = true) (h63 : n + 1 ≤ maxLen) (hbytes : (n + 1) * bytes ≤ 140737488355328) (hbase : base ≤ w.heap.size)
    (hk : ∀ v' w' g, OffRow w' base e v' (n + 1) (xs ++ [u]) → base ≤ g → w.grownBy w' (some g) → wpList P ops Q rest (a.put o.dst v') w') : wpList P ops Q (o :: rest) a w := by
  refine wpList_plain hgd fun J hJ => ?_
  obtain ⟨v', w', g, hr, h2, h3, h4⟩ := run_append_off (P := P) w base (ty := o.type) T v n xs h ad c u hu h1 h63 hbytes hbase
  unfold Oper.wp execOp
  simp only [ho, resolve, invoke, builtin, Sem.run_bind, Sem.run_pure, Result.andThen_ok, List.map_toArray, List.map_cons, List.map_nil, hs, hx, hr]
  exact hJ _ _ (hk v' w' g h2 h3 h4)
end

end Go.Proofs.Ytbndjailimhbdaa
