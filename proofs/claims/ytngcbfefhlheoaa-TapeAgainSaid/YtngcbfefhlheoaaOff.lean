/- What lies elsewhere than in a block; of what was synced each record is read. -/
import Derived.Test.YtngcbfefhlheoaaTapeF
namespace Go.Proofs.Ytngcbfefhlheoaa
open Go.RowKit

/-! What lies elsewhere than in a block T. -/
theorem grownSet (w : World) (p : Addr) (v : Value) : w.grownBy (w.setCell p v) (some p.block) := ⟨rfl, rfl, rfl, by simp, fun i hi hn => Below.heap_setCell _ _ _ _ (fun e => hn (by rw [e]))⟩

def OffB (w : World) (T : Nat) (v : Value) (l : List UInt8) : Prop := Bytes w v l ∧ (l = [] ∨ v.ownBlock ≠ some T)
def OffI (w : World) (T : Nat) (v : Value) (l : List Int) : Prop := Ints w v l ∧ (l = [] ∨ v.ownBlock ≠ some T)
def OffL (w : World) (T : Nat) (x : Value) (ll : List (List Int)) : Prop :=
  ∃ vs, Each w vs ll ∧ Reads w 1 x ll.length vs ∧ (ll = [] ∨ x.ownBlock ≠ some T) ∧ ∀ (i : Nat) (u : Value) (l : List Int), vs[i]? = some u → ll[i]? = some l → l = [] ∨ u.ownBlock ≠ some T

theorem reads_set {w : World} {sz n : Nat} {v : Value} {xs : List Value} {T : Nat} (h : Reads w sz v n xs) (hT : xs = [] ∨ v.ownBlock ≠ some T) (i : Nat) (u : Value) : Reads (w.setCell ⟨T, i, none⟩ u) sz v n xs :=
  Reads.grown h (grownSet w ⟨T, i, none⟩ u) (by rcases hT with h | h; exact .inl h; exact .inr (.inr h))

theorem OffB.ext {w w' : World} {T : Nat} {v : Value} {l : List UInt8} (h : OffB w T v l) (hb : Ext w w') : OffB w' T v l := ⟨h.1.ext hb, h.2⟩
theorem OffB.set {w : World} {T : Nat} {v : Value} {l : List UInt8} (h : OffB w T v l) (i : Nat) (u : Value) : OffB (w.setCell ⟨T, i, none⟩ u) T v l := ⟨reads_set h.1 (by rcases h.2 with h | h; exact .inl (by rw [h]; rfl); exact .inr h) i u, h.2⟩
theorem OffI.ext {w w' : World} {T : Nat} {v : Value} {l : List Int} (h : OffI w T v l) (hb : Ext w w') : OffI w' T v l := ⟨h.1.ext hb, h.2⟩
theorem OffI.set {w : World} {T : Nat} {v : Value} {l : List Int} (h : OffI w T v l) (i : Nat) (u : Value) : OffI (w.setCell ⟨T, i, none⟩ u) T v l := ⟨reads_set h.1 (by rcases h.2 with h | h; exact .inl (by rw [h]; rfl); exact .inr h) i u, h.2⟩
theorem OffL.ext {w w' : World} {T : Nat} {x : Value} {ll : List (List Int)} (h : OffL w T x ll) (hb : Ext w w') : OffL w' T x ll := by
  obtain ⟨vs, h1, h2, h3, h4⟩ := h
  exact ⟨vs, h1.ext hb, h2.ext hb, h3, h4⟩
theorem OffL.lists {w : World} {T : Nat} {x : Value} {ll : List (List Int)} (h : OffL w T x ll) : Lists w x ll := by
  obtain ⟨vs, h1, h2, _, _⟩ := h
  exact ⟨vs, h1, h2⟩
theorem OffL.set {w : World} {T : Nat} {x : Value} {ll : List (List Int)} (h : OffL w T x ll) (i : Nat) (u : Value) : OffL (w.setCell ⟨T, i, none⟩ u) T x ll := by
  obtain ⟨vs, h1, h2, h3, h4⟩ := h
  refine ⟨vs, ⟨h1.1, fun j y l hy hl => ?_⟩, reads_set h2 ?_ i u, h3, h4⟩
  · refine reads_set (h1.2 j y l hy hl) ?_ i u
    rcases h4 j y l hy hl with h | h
    · exact .inl (by rw [h]; rfl)
    · exact .inr h
  · rcases h3 with h | h
    · left; have := h1.1; rw [h] at this; exact List.eq_nil_of_length_eq_zero this
    · exact .inr h

theorem reads_lt {w : World} {sz n : Nat} {v : Value} {xs : List Value} (h : Reads w sz v n xs) (hx : xs ≠ []) (b : Nat) (hb : v.ownBlock = some b) : b < w.heap.size := by
  obtain ⟨a, c, rfl, hr⟩ := h
  cases a with
  | none => simp [Value.ownBlock] at hb
  | some p =>
    have := hr.blk (List.length_pos_iff.2 hx)
    simp [Value.ownBlock] at hb
    omega

/-- What was made ahead of T. -/
theorem OffL.of {w : World} {T : Nat} {x : Value} {ll : List (List Int)} (h : Lists w x ll) (hT : w.heap.size ≤ T) : OffL w T x ll := by
  obtain ⟨vs, h1, h2⟩ := h
  refine ⟨vs, h1, h2, ?_, fun i u l hu hl => ?_⟩
  · by_cases hx : ll = []
    · exact .inl hx
    · right
      intro e
      have hv : vs ≠ [] := fun e => hx (List.eq_nil_of_length_eq_zero (by rw [← h1.1, e]; rfl))
      have := reads_lt h2 hv _ e
      omega
  · by_cases hx : l = []
    · exact .inl hx
    · right
      intro e
      have := ints_lt (h1.2 i u l hu hl) hx _ e
      omega

/-- Of what was synced each record is read. -/
theorem torn_keeps (rs more : List (List Int)) (hg : ∀ zs ∈ rs ++ more, Good zs) (n : Nat) (h1 : (tapeB rs).length ≤ n) (h2 : n ≤ (tapeB (rs ++ more)).length) :
    ∃ j, rs.length ≤ j ∧ j ≤ (rs ++ more).length ∧ readL ((tapeB (rs ++ more)).take n) = ((rs ++ more).take j, (tapeB ((rs ++ more).take j)).length) ∧ ((tapeB (rs ++ more)).take n).take (tapeB ((rs ++ more).take j)).length = tapeB ((rs ++ more).take j) ∧ (tapeB ((rs ++ more).take j)).length ≤ n := by
  obtain ⟨j, hj1, hj2, hj3, _⟩ := readL_torn (rs ++ more) hg n h2
  have e : tapeB (rs ++ more) = tapeB rs ++ tapeB more := by simp [tapeB]
  have e2 : (tapeB (rs ++ more)).take n = tapeB rs ++ (tapeB more).take (n - (tapeB rs).length) := by
    rw [e, List.take_append]
    congr 1
    exact List.take_of_length_le h1
  have h3 := readL_app rs (fun z hz => hg z (by simp [hz])) ((tapeB more).take (n - (tapeB rs).length))
  rw [← e2, hj2] at h3
  have h4 := congrArg (fun p => p.1.length) h3
  simp only [List.length_take, List.length_append] at h4
  refine ⟨j, by omega, hj1, hj2, ?_, hj3⟩
  have e3 : tapeB (rs ++ more) = tapeB ((rs ++ more).take j) ++ tapeB ((rs ++ more).drop j) := by
    conv => lhs; rw [← List.take_append_drop j (rs ++ more)]
    simp only [tapeB, List.flatMap_append]
  rw [List.take_take, Nat.min_eq_left hj3]
  conv => lhs; rw [e3]
  rw [List.take_append_of_le_length (Nat.le_refl _), List.take_length]

end Go.Proofs.Ytngcbfefhlheoaa
