/- A slice of int slices: what it reads as; an argument that is one. -/
import Derived.Test.YtbndjailimhbdaaTag
namespace Go.Proofs.Ytbndjailimhbdaa
open Go.RowKit

theorem Try.slIntsG : SlTy Try.prog 23 3 (.int .i64 0) 1 8 := SlTy.mk' Try.underlying23 (by kernel_rfl) (by rfl) (by omega)
theorem Try.slLists : SlTy Try.prog 22 23 (.slice none 0 0) 1 24 := SlTy.mk' Try.underlying22 (by kernel_rfl) (by rfl) (by omega)

/-- Each of the values reads as its list. -/
def Each (w : World) (vs : List Value) (ll : List (List Int)) : Prop :=
  vs.length = ll.length ∧ ∀ (i : Nat) (x : Value) (l : List Int), vs[i]? = some x → ll[i]? = some l → Ints w x l

def Lists (w : World) (v : Value) (ll : List (List Int)) : Prop := ∃ vs, Each w vs ll ∧ Reads w 1 v ll.length vs

/-- No value that holds something lies in the row's own block. -/
def Apart (v : Value) (vs : List Value) (ll : List (List Int)) : Prop := ∀ (i : Nat) (x : Value) (l : List Int), vs[i]? = some x → ll[i]? = some l → l = [] ∨ ∀ b, v.ownBlock = some b → x.ownBlock ≠ some b

/-- .. whose row is the call's own. -/
def OwnL (w : World) (base : Nat) (v : Value) (ll : List (List Int)) : Prop := ∃ vs, Each w vs ll ∧ w.ownsRow base 23 1 v ll.length vs ∧ Apart v vs ll

theorem ints_lt {w : World} {x : Value} {l : List Int} (h : Ints w x l) (hl : l ≠ []) (b : Nat) (hb : x.ownBlock = some b) : b < w.heap.size := by
  obtain ⟨a, c, rfl, hr⟩ := h
  cases a with
  | none => simp [Value.ownBlock] at hb
  | some p =>
    have := hr.blk (by simp; exact List.length_pos_iff.2 hl)
    simp [Value.ownBlock] at hb
    omega

theorem ints_grown {w w' : World} {x : Value} {l : List Int} {row : Option Nat} (h : Ints w x l) (hg : w.grownBy w' row) (hn : l = [] ∨ ∀ b, row = some b → x.ownBlock ≠ some b) : Ints w' x l := by
  refine Reads.grown h hg ?_
  rcases hn with rfl | hn
  · exact .inl rfl
  · cases hx : x.ownBlock with
    | none => exact .inr (.inl rfl)
    | some b => exact .inr (.inr (fun e => hn b e.symm hx))

theorem Each.ext {w w' : World} {vs : List Value} {ll : List (List Int)} (h : Each w vs ll) (hb : Ext w w') : Each w' vs ll := ⟨h.1, fun i x l hx hl => (h.2 i x l hx hl).ext hb⟩
theorem Lists.ext {w w' : World} {v : Value} {ll : List (List Int)} (h : Lists w v ll) (hb : Ext w w') : Lists w' v ll := by
  obtain ⟨vs, h1, h2⟩ := h
  exact ⟨vs, h1.ext hb, h2.ext hb⟩
theorem OwnL.lists {w : World} {base : Nat} {v : Value} {ll : List (List Int)} (h : OwnL w base v ll) : Lists w v ll := by
  obtain ⟨vs, h1, h2, _⟩ := h
  exact ⟨vs, h1, h2.reads⟩
theorem OwnL.ext {w w' : World} {base : Nat} {v : Value} {ll : List (List Int)} (h : OwnL w base v ll) (hb : Ext w w') : OwnL w' base v ll := by
  obtain ⟨vs, h1, h2, h3⟩ := h
  exact ⟨vs, h1.ext hb, own_ext h2 hb, h3⟩
theorem OwnL.down {w : World} {base base' : Nat} {v : Value} {ll : List (List Int)} (h : OwnL w base v ll) (hb : base' ≤ base) : OwnL w base' v ll := by
  obtain ⟨vs, h1, h2, h3⟩ := h
  exact ⟨vs, h1, own_down h2 hb, h3⟩
theorem OwnL.nil (w : World) (base : Nat) : OwnL w base (.slice none 0 0) [] := ⟨[], ⟨rfl, by intro i x l hx; simp at hx⟩, World.ownsRow_nil _ _ _ _, by intro i x l hx; simp at hx⟩

theorem Each.snoc {w : World} {vs : List Value} {ll : List (List Int)} (h : Each w vs ll) {x : Value} {l : List Int} (hx : Ints w x l) : Each w (vs ++ [x]) (ll ++ [l]) := by
  refine ⟨by simp [h.1], fun i y m hy hm => ?_⟩
  by_cases hi : i < vs.length
  · rw [List.getElem?_append_left hi] at hy
    rw [List.getElem?_append_left (by rw [← h.1]; exact hi)] at hm
    exact h.2 i y m hy hm
  · rw [List.getElem?_append_right (by omega)] at hy
    rw [List.getElem?_append_right (by rw [← h.1]; omega)] at hm
    have e : i - vs.length = 0 := by have := (List.getElem?_eq_some_iff.1 hy).1; simp at this; omega
    rw [← h.1] at hm
    rw [e] at hy hm
    simp at hy hm
    subst hy; subst hm
    exact hx

theorem Each.take {w : World} {vs : List Value} {ll : List (List Int)} (h : Each w vs ll) (k : Nat) : Each w (vs.take k) (ll.take k) := by
  refine ⟨by simp [h.1], fun i y m hy hm => ?_⟩
  rw [List.getElem?_take] at hy hm
  split at hy
  · rename_i hi
    rw [if_pos hi] at hm
    exact h.2 i y m hy hm
  · cases hy

/-- One more behind an 'append'. -/
theorem snoc_parts {w w1 : World} {base : Nat} {v v1 x : Value} {vs : List Value} {ll : List (List Int)} {l : List Int} {m : Nat} (hE : Each w vs ll) (hA : Apart v vs ll) (hx : Ints w x l) (hxa : l = [] ∨ ∀ b, v.ownBlock = some b → x.ownBlock ≠ some b)
    (hown : w1.ownsRow base 23 1 v1 m (vs ++ [x])) (hg : w.grownBy w1 v.ownBlock) (hb : v1.ownBlock = v.ownBlock ∨ v1.ownBlock = some w.heap.size) : Each w1 (vs ++ [x]) (ll ++ [l]) ∧ w1.ownsRow base 23 1 v1 (ll ++ [l]).length (vs ++ [x]) ∧ Apart v1 (vs ++ [x]) (ll ++ [l]) := by
  have hE2 := hE.snoc hx
  have hA2 : Apart v (vs ++ [x]) (ll ++ [l]) := by
    intro i y k hy hk
    by_cases hi : i < vs.length
    · rw [List.getElem?_append_left hi] at hy
      rw [List.getElem?_append_left (by rw [← hE.1]; exact hi)] at hk
      exact hA i y k hy hk
    · rw [List.getElem?_append_right (by omega)] at hy
      rw [List.getElem?_append_right (by rw [← hE.1]; omega)] at hk
      have e : i - vs.length = 0 := by have := (List.getElem?_eq_some_iff.1 hy).1; simp at this; omega
      rw [← hE.1] at hk
      rw [e] at hy hk
      simp at hy hk
      subst hy; subst hk
      exact hxa
  have hm : m = (ll ++ [l]).length := by have := hown.1; rw [hE2.1] at this; omega
  subst hm
  refine ⟨⟨hE2.1, fun i y k hy hk => ints_grown (hE2.2 i y k hy hk) hg (hA2 i y k hy hk)⟩, hown, fun i y k hy hk => ?_⟩
  rcases hb with hb | hb
  · rw [hb]; exact hA2 i y k hy hk
  · by_cases hk0 : k = []
    · exact .inl hk0
    · refine .inr fun b e e2 => ?_
      rw [hb] at e
      injection e with e
      have := ints_lt (hE2.2 i y k hy hk) hk0 b e2
      omega

theorem OwnL.snoc {w w1 : World} {base : Nat} {v v1 x : Value} {vs : List Value} {ll : List (List Int)} {l : List Int} {m : Nat} (hE : Each w vs ll) (hA : Apart v vs ll) (hx : Ints w x l) (hxa : l = [] ∨ ∀ b, v.ownBlock = some b → x.ownBlock ≠ some b)
    (hown : w1.ownsRow base 23 1 v1 m (vs ++ [x])) (hg : w.grownBy w1 v.ownBlock) (hb : v1.ownBlock = v.ownBlock ∨ v1.ownBlock = some w.heap.size) : OwnL w1 base v1 (ll ++ [l]) :=
  ⟨_, snoc_parts hE hA hx hxa hown hg hb⟩

/-- The cells of a slice of slices. -/
theorem Lists.cells {w : World} {a : Option Addr} {n cap : Nat} {ll : List (List Int)} (h : Lists w (.slice a n cap) ll) :
    n = ll.length ∧ n ≤ cap ∧ cap ≤ maxLen ∧ ∃ b off, (0 < n → a = some ⟨b, off, none⟩) ∧ ∀ (i : Nat) (hi : i < ll.length), ∃ ai ci, w.cell? ⟨b, off + i, none⟩ = some (.slice ai ll[i].length ci) ∧ Ints w (.slice ai ll[i].length ci) ll[i] := by
  obtain ⟨vs, he, a', c', e, hr⟩ := h
  simp only [Value.slice.injEq] at e
  obtain ⟨rfl, rfl, rfl⟩ := e
  obtain ⟨b, off, _, h2, h3⟩ := hr.lie
  refine ⟨rfl, hr.le, hr.max, b, off, fun hl => h2 (by rw [he.1]; exact hl), fun i hi => ?_⟩
  have hi' : i < vs.length := by rw [he.1]; exact hi
  have hx := he.2 i vs[i] ll[i] (by simp) (by simp)
  obtain ⟨ai, ci, e, hri⟩ := hx
  refine ⟨ai, ci, ?_, ai, ci, rfl, hri⟩
  rw [← e]
  exact h3 i vs[i] (by simp)

theorem Lists.take {w : World} {a : Option Addr} {n cap : Nat} {ll : List (List Int)} (h : Lists w (.slice a n cap) ll) (k : Nat) (hk : k ≤ n) : Lists w (.slice a k cap) (ll.take k) := by
  obtain ⟨vs, he, a', c', e, hr⟩ := h
  simp only [Value.slice.injEq] at e
  obtain ⟨rfl, rfl, rfl⟩ := e
  refine ⟨vs.take k, he.take k, a, cap, by simp [Nat.min_eq_left hk], ?_⟩
  have := hr.take k hk
  rw [Nat.mul_one] at this
  simpa [Nat.min_eq_left hk] using this

theorem Cells.lists {P : Program} {W : World} {t e i : TypeId} {cs : List Value} (ht : P.underlying t = some (.slice e)) (he : P.underlying e = some (.slice i)) (hi : P.underlying i = some (.int .i64)) (hc : P.cellsOf e = 1) (hci : P.cellsOf i = 1) (h : Cells P W t cs) :
    ∃ v ll, cs = [v] ∧ Lists W v ll ∧ ∀ l ∈ ll, ∀ n ∈ l, I64 n := by
  obtain ⟨a, cap, xss, rfl, hr, hx⟩ := h.slice ht hc
  have key : ∀ yss : List (List Value), (∀ xs ∈ yss, xs.length = 1 ∧ Cells P W e xs) → ∃ ll, yss.length = ll.length ∧ Each W yss.flatten ll ∧ ∀ l ∈ ll, ∀ n ∈ l, I64 n := by
    intro yss
    induction yss with
    | nil => intro _; exact ⟨[], rfl, ⟨rfl, by intro i x l hx; simp at hx⟩, by simp⟩
    | cons ys yss ih =>
      intro h
      obtain ⟨ll, h1, h2, h3⟩ := ih (fun xs hx => h xs (by simp [hx]))
      obtain ⟨v, l, rfl, hl, hI⟩ := (h ys (by simp)).2.ints he hi hci
      refine ⟨l :: ll, by simp [h1], ⟨by simpa using h2.1, fun i x m hx hm => ?_⟩, fun m hm => (List.mem_cons.1 hm).elim (fun e => e ▸ hI) (fun hm => h3 m hm)⟩
      cases i with
      | zero => simp at hx hm; subst hx; subst hm; exact hl
      | succ i => exact h2.2 i x m (by simpa using hx) (by simpa using hm)
  obtain ⟨ll, h1, h2, h3⟩ := key xss hx
  rw [h1] at hr ⊢
  exact ⟨_, ll, rfl, ⟨_, h2, a, cap, rfl, hr⟩, h3⟩

end Go.Proofs.Ytbndjailimhbdaa
