/- General words: a graph's list, or a graph's set, is stored anew; what that does to fair parts. No condition. -/
import Derived.Test.YtknomfdeefakbaaGrM
import Derived.Test.YtknomfdeefakbaaFairQ
namespace Go.Proofs.Ytknomfdeefakbaa
open Go.RowKit

theorem Each.setAt {w : World} {vs : List Value} {ll : List (List Int)} (h : Each w vs ll) {u : Value} {l : List Int} (hu : Ints w u l) (x : Nat) : Each w (vs.set x u) (ll.set x l) := by
  refine ⟨by simp [h.1], fun i y m hy hm => ?_⟩
  by_cases e : x = i
  · subst e
    rw [List.getElem?_set] at hy hm
    simp only [if_true] at hy hm
    split at hy
    · split at hm
      · injection hy with hy; injection hm with hm; subst hy; subst hm; exact hu
      · cases hm
    · cases hy
  · rw [List.getElem?_set, if_neg e] at hy hm
    exact h.2 i y m hy hm

theorem GMem.setNx {τ : Nat → Nat} {B : Nat} {w w6 : World} {sp st : Value} {S : List Op2} {L : List (List Int)} {T : List Int} {D n c : Nat} (h : GMem τ B w sp (.slice (some ⟨D, 0, none⟩) n c) st S L T) (hE : Ext w w6)
    {v6 : Value} {l6 : List Int} (hv : w6.ownsRow w.heap.size 3 1 v6 l6.length (l6.map (.int .i64))) (x : Nat) :
    GMem (tagAt τ w.heap.size 3) B (w6.setCell ⟨D, x, none⟩ v6) sp (.slice (some ⟨D, 0, none⟩) n c) st S (L.set x l6) T ∧ B ≤ D ∧ D < w.heap.size := by
  obtain ⟨vs, h1, h2⟩ := h.nx
  obtain rfl : n = L.length := by
    rcases h1.own.2 with ⟨hn, _⟩ | ⟨g, cap, cur, hv, _⟩
    · cases hn
    · simp only [Value.slice.injEq] at hv; exact hv.2.1
  have e : ∀ b, b < w.heap.size → tagAt τ w.heap.size 3 b = τ b := fun b hb => tagAt_lt hb
  have tD : τ D = 2 := h1.tag D rfl
  have hD := h1.own.lt D rfl
  have tD' : tagAt τ w.heap.size 3 D = 2 := (e D hD.2).trans tD
  have hB := h.size
  have o6 : OwnT (tagAt τ w.heap.size 3) 3 w6 w.heap.size 3 1 v6 l6.length (l6.map (.int .i64)) := OwnT.fresh τ 3 hv
  have en := ((h2.tag e).ext hE).set (p := ⟨D, x, none⟩) (by show tagAt τ w.heap.size 3 D ≠ 3; omega) v6
  have e6 := (o6.set (p := ⟨D, x, none⟩) (by show tagAt τ w.heap.size 3 D ≠ 3; omega) v6).ent
  refine ⟨⟨fun b hb => by rw [e b (by omega)]; exact h.lo b hb, by have := hE.size; simp; omega, ((h.sp.retag e).ext hE).set (p := ⟨D, x, none⟩) (by show tagAt τ w.heap.size 3 D ≠ 1; omega) v6, ⟨vs.set x v6, ?_, ?_⟩, ((h.st.retag e).ext hE).set (p := ⟨D, x, none⟩) (by show tagAt τ w.heap.size 3 D ≠ 4; omega) v6⟩, hD.1, hD.2⟩
  · have := ((h1.retag e).ext hE).setAt (i := x) v6
    rw [List.length_set]
    exact this
  · exact Ent.both en e6 fun y ha hb => ha.setAt (show Ints y v6 l6 from (World.ownsRow.reads hb)) x

theorem GMem.setSt {τ : Nat → Nat} {B : Nat} {w : World} {sp nx : Value} {S : List Op2} {L : List (List Int)} {T : List Int} {D n c : Nat} (h : GMem τ B w sp nx (.slice (some ⟨D, 0, none⟩) n c) S L T) (x : Nat) (v : Int) :
    GMem τ B (w.setCell ⟨D, x, none⟩ (.int .i64 v)) sp nx (.slice (some ⟨D, 0, none⟩) n c) S L (T.set x v) ∧ B ≤ D ∧ D < w.heap.size := by
  obtain rfl : n = T.length := by
    rcases h.st.own.2 with ⟨hn, _⟩ | ⟨g, cap, cur, hv, _⟩
    · cases hn
    · simp only [Value.slice.injEq] at hv; exact hv.2.1
  obtain ⟨vs, h1, h2⟩ := h.nx
  have tD : τ D = 4 := h.st.tag D rfl
  have hD := h.st.own.lt D rfl
  refine ⟨⟨h.lo, by simpa using h.size, h.sp.set (p := ⟨D, x, none⟩) (by show τ D ≠ 1; omega) _, ⟨vs, h1.set (p := ⟨D, x, none⟩) (by show τ D ≠ 2; omega) _, h2.set (p := ⟨D, x, none⟩) (by show τ D ≠ 3; omega) _⟩, ?_⟩, hD.1, hD.2⟩
  have := h.st.setAt (i := x) (.int .i64 v)
  rw [List.length_set, List.map_set]
  exact this

theorem GMem.nxAt {τ : Nat → Nat} {B : Nat} {w : World} {sp st : Value} {S : List Op2} {L : List (List Int)} {T : List Int} {a : Option Addr} {n c : Nat} (h : GMem τ B w sp (.slice a n c) st S L T) {x : Nat} (hx : x < L.length) :
    ∃ D u, a = some ⟨D, 0, none⟩ ∧ n = L.length ∧ w.cell? ⟨D, x, none⟩ = some u ∧ w.frozen? ⟨D, x, none⟩ = false ∧ Ints w u L[x] ∧ B ≤ D ∧ D < w.heap.size := by
  obtain ⟨vs, h1, h2⟩ := h.nx
  obtain ⟨hl, he⟩ := h2.now
  rcases h1.own.2 with ⟨hn, hv⟩ | ⟨g, cap, cur, hv, hb, hgg, _⟩
  · omega
  · simp only [Value.slice.injEq] at hv
    obtain ⟨rfl, rfl, rfl⟩ := hv
    have hxv : x < vs.length := by omega
    exact ⟨g, vs[x], rfl, rfl, own_cellAt h1.own hxv, own_freeAt h1.own x, he x _ _ (List.getElem?_eq_getElem hxv) (List.getElem?_eq_getElem hx), h1.own.lt g rfl⟩

theorem GMem.stAt {τ : Nat → Nat} {B : Nat} {w : World} {sp nx : Value} {S : List Op2} {L : List (List Int)} {T : List Int} {a : Option Addr} {n c : Nat} (h : GMem τ B w sp nx (.slice a n c) S L T) {x : Nat} (hx : x < T.length) :
    ∃ D, a = some ⟨D, 0, none⟩ ∧ n = T.length ∧ w.cell? ⟨D, x, none⟩ = some (.int .i64 T[x]) ∧ w.frozen? ⟨D, x, none⟩ = false ∧ B ≤ D ∧ D < w.heap.size := by
  rcases h.st.own.2 with ⟨hn, hv⟩ | ⟨g, cap, cur, hv, hb, hgg, _⟩
  · simp at hv; subst hv; simp at hx
  · simp only [Value.slice.injEq] at hv
    obtain ⟨rfl, rfl, rfl⟩ := hv
    have hc := own_cellAt h.st.own (i := x) (by simpa using hx)
    rw [List.getElem_map] at hc
    exact ⟨g, rfl, rfl, hc, own_freeAt h.st.own x, h.st.own.lt g rfl⟩

/-- More edges: more is reached. -/
theorem Reach.more {A B : List (List Int)} (h : ∀ a b, Edge A a b → Edge B a b) {a b : Nat} (r : Reach A a b) : Reach B a b := by
  induction r with
  | refl => exact Reach.refl _
  | step _ e ih => exact ih.step (h _ _ e)

theorem FairAt.least_exists {next : List (List Int)} {bits : Nat → Nat} {M n m : Nat} (hm : m < n) (h1 : ∃ i k, i < n ∧ Same next m i ∧ Edge next i k ∧ Same next m k) (h2 : ∀ t, t < M → ∃ i, i < n ∧ Same next m i ∧ (bits i).testBit t = true) :
    ∃ m', m' < n ∧ Same next m m' ∧ FairAt next bits M n m' := by
  classical
  have : ∀ k, (∃ b, b < k ∧ Same next m b) → ∃ b, Same next m b ∧ b < k ∧ ∀ c, Same next m c → b ≤ c := by
    intro k
    induction k with
    | zero => rintro ⟨b, hb, _⟩; omega
    | succ k ih =>
      intro hk
      by_cases hx : ∃ b, b < k ∧ Same next m b
      · obtain ⟨b, a1, a2, a3⟩ := ih hx
        exact ⟨b, a1, by omega, a3⟩
      · obtain ⟨b, hb, hs⟩ := hk
        have e : b = k := by
          by_cases e : b = k
          · exact e
          · exact absurd ⟨b, by omega, hs⟩ hx
        subst e
        refine ⟨b, hs, by omega, fun c hc => ?_⟩
        by_cases e : b ≤ c
        · exact e
        · exact absurd ⟨c, by omega, hc⟩ hx
  obtain ⟨b, a1, a2, a3⟩ := this n ⟨m, hm, Same.refl _ _⟩
  refine ⟨b, a2, a1, fun c hc => a3 c (a1.trans hc), ?_, fun t ht => ?_⟩
  · obtain ⟨i, k, hi, s1, e, s2⟩ := h1
    exact ⟨i, k, hi, a1.symm.trans s1, e, a1.symm.trans s2⟩
  · obtain ⟨i, hi, s1, hb⟩ := h2 t ht
    exact ⟨i, hi, a1.symm.trans s1, hb⟩

/-- More edges and more sets leave a fair part where there is one. -/
theorem FairAt.more {A B : List (List Int)} {p q : Nat → Nat} {M n m init : Nat} (hm : m < n) (h : FairAt A p M n m) (hr : ∃ s, s < init ∧ Reach A s m) (he : ∀ a b, Edge A a b → Edge B a b) (hb : ∀ i t, (p i).testBit t = true → (q i).testBit t = true) :
    ∃ m', m' < n ∧ FairAt B q M n m' ∧ ∃ s, s < init ∧ Reach B s m' := by
  have hs : ∀ a b, Same A a b → Same B a b := fun a b s => ⟨s.1.more he, s.2.more he⟩
  obtain ⟨i, k, hi, s1, e, s2⟩ := h.loop
  obtain ⟨m', h1, h2, h3⟩ := FairAt.least_exists (next := B) (bits := q) (M := M) hm ⟨i, k, hi, hs _ _ s1, he _ _ e, hs _ _ s2⟩ fun t ht => by
    obtain ⟨j, hj, s, hbit⟩ := h.sets t ht
    exact ⟨j, hj, hs _ _ s, hb _ _ hbit⟩
  obtain ⟨s, hs1, hs2⟩ := hr
  exact ⟨m', h1, h3, s, hs1, (hs2.more he).trans h2.1⟩

end Go.Proofs.Ytknomfdeefakbaa
