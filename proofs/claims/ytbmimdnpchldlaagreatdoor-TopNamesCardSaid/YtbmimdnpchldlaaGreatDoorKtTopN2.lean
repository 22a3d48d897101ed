/- What the law TopNames needs: rows of more than one cell each; names that are longer. -/
import Derived.Test.YtbmimdnpchldlaaGreatDoorKtTopN
import Derived.Test.YtbmimdnpchldlaaGreatDoorKtTopM
namespace Go.Proofs.YtbmimdnpchldlaaGreatDoor
open Go.RowKit

theorem own_blockN {w : World} {base : Nat} {e : TypeId} {sz H off n cap : Nat} {v : Value} {xs : List Value} (h : w.ownsRow base e sz v n xs) (hv : v = .slice (some ⟨H, off, none⟩) n cap) : off = 0 ∧ ∃ cur : Array Value, w.heap[H]? = some (.cells cur e (0, 0)) ∧ cur.toList.take (n * sz) = xs := by
  subst hv
  rcases h.2 with ⟨h1, _⟩ | ⟨g, c, cur, h1, _, h3, _, _, _, h7⟩
  · cases h1
  · simp only [Value.slice.injEq, Option.some.injEq, Addr.mk.injEq] at h1
    obtain ⟨⟨rfl, rfl, _⟩, _, rfl⟩ := h1
    exact ⟨rfl, cur, h3, h7⟩
theorem own_cellN {w : World} {base : Nat} {e : TypeId} {sz H n cap i : Nat} {xs : List Value} {x : Value} (h : w.ownsRow base e sz (.slice (some ⟨H, 0, none⟩) n cap) n xs) (hi : xs[i]? = some x) : w.cell? ⟨H, i, none⟩ = some x := by
  obtain ⟨_, cur, h1, h2⟩ := own_blockN h rfl
  subst h2
  have h4 := (List.getElem?_eq_some_iff.1 hi).1
  have h3 : i < cur.size := by simp at h4; omega
  rw [blk_cell h1 (v := cur[i]) (by rw [Array.getElem?_eq_getElem h3])]
  rw [List.getElem?_take] at hi
  split at hi
  · simpa [h3] using hi
  · cases hi
theorem own_freeN {w : World} {base : Nat} {e : TypeId} {sz H n cap : Nat} {xs : List Value} (h : w.ownsRow base e sz (.slice (some ⟨H, 0, none⟩) n cap) n xs) (i : Nat) : w.frozen? ⟨H, i, none⟩ = false := by
  obtain ⟨_, cur, h1, h2⟩ := own_blockN h rfl
  exact blk_free h1 i
theorem own_setN {w : World} {base : Nat} {e : TypeId} {sz H n cap i : Nat} {xs : List Value} (h : w.ownsRow base e sz (.slice (some ⟨H, 0, none⟩) n cap) n xs) (u : Value) : (w.setCell ⟨H, i, none⟩ u).ownsRow base e sz (.slice (some ⟨H, 0, none⟩) n cap) n (xs.set i u) := by
  refine ⟨by simpa using h.1, ?_⟩
  rcases h.2 with ⟨h1, _⟩ | ⟨g, c, cur, h1, h2, h3, h4, h5, h6, h7⟩
  · cases h1
  · have h1' := h1
    simp only [Value.slice.injEq, Option.some.injEq, Addr.mk.injEq] at h1'
    obtain ⟨⟨rfl, _, _⟩, _, rfl⟩ := h1'
    exact .inr ⟨_, _, cur.setIfInBounds i u, rfl, h2, blk_set h3 u, h4, h5, by simpa using h6, by rw [Array.toList_setIfInBounds, List.take_set, h7]⟩
theorem own_shapeN {w : World} {base : Nat} {e : TypeId} {sz : Nat} {v : Value} {n : Nat} {xs : List Value} (h : w.ownsRow base e sz v n xs) (hn : 0 < n) : ∃ H cap, v = .slice (some ⟨H, 0, none⟩) n cap := by
  rcases h.2 with ⟨h1, h2, _⟩ | ⟨g, cap, cur, h1, _⟩
  · omega
  · exact ⟨g, cap, h1⟩

abbrev qX : ByteArray := ⟨#[113, 120]⟩
abbrev qY : ByteArray := ⟨#[113, 121, 50]⟩
abbrev nmI : ByteArray := ⟨#[105, 100, 108, 101]⟩
theorem qX_ok : NameOk qX := by
  refine ⟨by decide, by decide, by rw [ByteArray.toList_eq]; decide, by rw [ByteArray.toList_eq]; decide, ?_⟩
  intro i h
  have h2 : qX.size = 2 := rfl
  have : i = 0 ∨ i = 1 := by omega
  rcases this with rfl | rfl
  · exact .inl (show 97 ≤ (113 : UInt8).toNat ∧ (113 : UInt8).toNat ≤ 122 by decide)
  · exact .inl (show 97 ≤ (120 : UInt8).toNat ∧ (120 : UInt8).toNat ≤ 122 by decide)
theorem qY_ok : NameOk qY := by
  refine ⟨by decide, by decide, by rw [ByteArray.toList_eq]; decide, by rw [ByteArray.toList_eq]; decide, ?_⟩
  intro i h
  have h2 : qY.size = 3 := rfl
  have : i = 0 ∨ i = 1 ∨ i = 2 := by omega
  rcases this with rfl | rfl | rfl
  · exact .inl (show 97 ≤ (113 : UInt8).toNat ∧ (113 : UInt8).toNat ≤ 122 by decide)
  · exact .inl (show 97 ≤ (121 : UInt8).toNat ∧ (121 : UInt8).toNat ≤ 122 by decide)
  · exact .inr (show 48 ≤ (50 : UInt8).toNat ∧ (50 : UInt8).toNat ≤ 57 ∧ 2 ≠ 0 by decide)
theorem nmI_ok : NameOk nmI := by
  refine ⟨by decide, by decide, by rw [ByteArray.toList_eq]; decide, by rw [ByteArray.toList_eq]; decide, ?_⟩
  intro i h
  have h2 : nmI.size = 4 := rfl
  have : i = 0 ∨ i = 1 ∨ i = 2 ∨ i = 3 := by omega
  rcases this with rfl | rfl | rfl | rfl
  · exact .inl (show 97 ≤ (105 : UInt8).toNat ∧ (105 : UInt8).toNat ≤ 122 by decide)
  · exact .inl (show 97 ≤ (100 : UInt8).toNat ∧ (100 : UInt8).toNat ≤ 122 by decide)
  · exact .inl (show 97 ≤ (108 : UInt8).toNat ∧ (108 : UInt8).toNat ≤ 122 by decide)
  · exact .inl (show 97 ≤ (101 : UInt8).toNat ∧ (101 : UInt8).toNat ≤ 122 by decide)

theorem good_more {t : Tm} {n k : Int} (h : t.good n) (hk : n ≤ k) : t.good k := fun o ho => by
  have h1 := h o ho
  unfold opE at h1 ⊢
  by_cases e : okK o.1 = false
  · rw [if_pos e] at h1; omega
  · rw [if_neg e] at h1
    rw [if_neg e]
    by_cases e1 : o.1 = 1
    · simp only [if_pos e1] at h1 ⊢
      exact h1
    · by_cases e2 : o.1 = 2
      · simp only [if_neg e1, if_pos e2] at h1 ⊢
        by_cases q : o.2 < 0 ∨ n - 1 < o.2
        · rw [if_pos q] at h1; omega
        · rw [if_neg (by omega)]
      · simp only [if_neg e1, if_neg e2] at h1 ⊢
        exact h1
theorem sub_more {t : Tm} {n k : Int} (h : Sub t n) (hk : n ≤ k) : Sub t k := ⟨h.ok, good_more h.good hk, h.typed⟩
theorem pre_more {r : Rl} {n k : Int} (h : RlPre n r) (hk : n ≤ k) : RlPre k r := ⟨h.many, sub_more h.guard hk, h.gsize, fun s hs => by
  obtain ⟨h1, h2, h3, h4, h5⟩ := h.sets s hs
  exact ⟨h1, by omega, sub_more h3 hk, h4, h5⟩⟩

/-- The model with other names, and one variable more. -/
def namesM (m : Md) (a b : Vr) (k : Int) : Md := ⟨[{ a with name := qX }, { b with name := qY }] ++ [⟨nmI, 0, k, 0⟩], m.rules⟩
section
variable {m : Md} (hm : m.Ok) {a b : Vr} (hv : m.vars = [a, b]) {k : Int} (h0 : 0 ≤ k) (h4 : k ≤ 4)
include hm hv h0 h4
theorem namesM_ok (h16 : countL m.vars ≤ 16) : (namesM m a b k).Ok := by
  have ha := hm.vars a (by rw [hv]; simp)
  have hb := hm.vars b (by rw [hv]; simp)
  have hc : countL (namesM m a b k).vars = countL m.vars * (k + 1) := by
    show countL ([{ a with name := qX }, { b with name := qY }] ++ [⟨nmI, 0, k, 0⟩]) = _
    rw [countL_app, hv]
    simp [countL, Vr.span]
  exact {
    six := by show 3 ≤ 6; omega
    vars := fun v h => by
      simp only [namesM, List.cons_append, List.nil_append, List.mem_cons, List.not_mem_nil, or_false] at h
      rcases h with rfl | rfl | rfl
      · exact ⟨qX_ok, ha.low, ha.high, ha.i0, ha.i1, ha.sp⟩
      · exact ⟨qY_ok, hb.low, hb.high, hb.i0, hb.i1, hb.sp⟩
      · exact ⟨nmI_ok, by show (-1000 : Int) ≤ 0; omega, by show k ≤ 1000; omega, by show (0 : Int) ≤ 0; omega, by show (0 : Int) ≤ k; omega, by show k - 0 < 64; omega⟩
    count := by
      rw [hc]
      have h1 := countL_pos hm.vars
      have := Int.mul_le_mul h16 (show k + 1 ≤ 5 by omega) (by omega) (by omega)
      omega
    twelve := hm.twelve
    rules := fun r hr => by
      have := hm.rules r hr
      rw [hv] at this
      exact pre_more this (by show ((2 : Nat) : Int) ≤ ((3 : Nat) : Int); omega)
    names := by show ([qX, qY, nmI] : List ByteArray).Nodup; decide
    kinds := hm.kinds }
theorem namesM_count (h16 : countL m.vars ≤ 16) : 0 ≤ countL (namesM m a b k).vars ∧ countL (namesM m a b k).vars ≤ 80 := by
  have hc : countL (namesM m a b k).vars = countL m.vars * (k + 1) := by
    show countL ([{ a with name := qX }, { b with name := qY }] ++ [⟨nmI, 0, k, 0⟩]) = _
    rw [countL_app, hv]
    simp [countL, Vr.span]
  have h1 := countL_pos hm.vars
  rw [hc]
  have h2 := Int.mul_le_mul h16 (show k + 1 ≤ 5 by omega) (by omega) (by omega)
  have h3 := Int.mul_nonneg (show 0 ≤ countL m.vars by omega) (show 0 ≤ k + 1 by omega)
  omega
theorem namesM_task {t : Tm} (h16 : countL m.vars ≤ 16) (hk : TkOk m propT t) : TkOk (namesM m a b k) propT t :=
  ⟨namesM_ok hm hv h0 h4 h16, by show 0 < 3; omega, ⟨hk.pk.six, fun p hp => by
    obtain ⟨g1, g2, g3⟩ := hk.pk.each p hp
    rw [hv] at g1
    exact ⟨sub_more g1 (by show ((2 : Nat) : Int) ≤ ((3 : Nat) : Int); omega), g2, g3⟩⟩, hk.ff⟩
theorem namesM_holds {t : Tm} (hk : TkOk m propT t) : holdsB (namesM m a b k) propT t = holdsB m propT t := by
  have _ := h4
  refine names_holds (m := m) hm.toPre (ren := [{ a with name := qX }, { b with name := qY }]) (by rw [hv]; rfl) (id := ⟨nmI, 0, k, 0⟩) rfl (by show 1 ≤ k - 0 + 1; omega) rfl (fun p hp => (hk.pk.each p hp).1.good) t
end

end Go.Proofs.YtbmimdnpchldlaaGreatDoor
