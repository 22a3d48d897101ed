/- MdH: what is needed of it. No condition. -/
import Derived.Test.YtopkbjfjncpjdaaDoorMdG
import Derived.Test.YtopkbjfjncpjdaaDoorMdM
import Derived.Test.YtopkbjfjncpjdaaDoorTag
namespace Go.Proofs.YtopkbjfjncpjdaaDoor
open Go.RowKit
theorem Tryd.slVars : SlTy Tryd.prog 26 43 (.agg #[.string ⟨#[]⟩, .int .i64 0, .int .i64 0, .int .i64 0]) 4 40 := SlTy.mk' Tryd.underlying26 (by kernel_rfl) (by rfl) (by omega)
theorem Tryd.slSets : SlTy Tryd.prog 38 45 (.agg #[.int .i64 0, .slice none 0 0]) 2 32 := SlTy.mk' Tryd.underlying38 (by kernel_rfl) (by rfl) (by omega)
theorem Tryd.slRules : SlTy Tryd.prog 27 40 (.agg #[.slice none 0 0, .slice none 0 0]) 2 48 := SlTy.mk' Tryd.underlying27 (by kernel_rfl) (by rfl) (by omega)
theorem Row.newK (w : World) (t : TypeId) (sz k : Nat) (cs : List Value) (hs : cs.length = sz) (hk : k = w.heap.size) : Row (w.alloc (.cells cs.toArray t)) sz (some ⟨k, 0, none⟩) 1 1 cs := by
  subst hk
  refine ⟨by omega, Nat.le_refl _, by unfold maxLen; omega, w.heap.size, 0, (by intro h; cases h), fun _ => rfl, fun j u hu => ?_⟩
  rw [Nat.zero_add, World.cell?_alloc_at _ _ _ _ rfl]
  simpa using hu
theorem isVars_of {w : World} {v : Value} {l : List Vr} (h : Reads w 4 v l.length (l.flatMap vrc)) : IsVars w v l := by
  refine ⟨l.map vrc, by simp, ?_, by rw [← List.flatMap_def]; exact h, fun i cs x a b => ?_⟩
  · intro cs hc
    obtain ⟨x, _, rfl⟩ := List.mem_map.1 hc
    rfl
  · rw [List.getElem?_map, b] at a
    simp at a
    exact a.symm
def PlanE : World → Pl → List Value → Prop := fun w p cs => ∃ g v, cs = [g, .int .i64 p.var, v, .bool p.both] ∧ Ops w g p.guard ∧ Ops w v p.value
def IsPlans (w : World) (v : Value) (l : List Pl) : Prop := EachL 4 PlanE w v l
theorem PlanE.ext {w w' : World} {p : Pl} {cs : List Value} (h : PlanE w p cs) (hb : Ext w w') : PlanE w' p cs := by
  obtain ⟨g, v, h1, h2, h3⟩ := h
  exact ⟨g, v, h1, ops_ext h2 hb, ops_ext h3 hb⟩
theorem IsPlans.ext {w w' : World} {v : Value} {l : List Pl} (h : IsPlans w v l) (hb : Ext w w') : IsPlans w' v l := EachL.ext (E := PlanE) (w := w) (w' := w') (fun _ _ h => h.ext hb) h hb
theorem IsPlans.at {w : World} {v : Value} {l : List Pl} (h : IsPlans w v l) : ∃ a c, v = .slice a l.length c ∧ l.length ≤ maxLen ∧ ∃ b off, (0 < l.length → a = some ⟨b, off, none⟩) ∧ ∀ (i : Nat) (hi : i < l.length),
    ∃ g s, w.cell? ⟨b, off + i * 4, none⟩ = some g ∧ w.cell? ⟨b, off + i * 4 + 1, none⟩ = some (.int .i64 l[i].var) ∧ w.cell? ⟨b, off + i * 4 + 2, none⟩ = some s ∧ w.cell? ⟨b, off + i * 4 + 3, none⟩ = some (.bool l[i].both) ∧ Ops w g l[i].guard ∧ Ops w s l[i].value := by
  obtain ⟨a, c, h1, h2, b, off, h3, h4⟩ := EachL.at h (by omega)
  refine ⟨a, c, h1, h2, b, off, h3, fun i hi => ?_⟩
  obtain ⟨cs, _, ⟨g, s, rfl, hg, hs⟩, hc⟩ := h4 i hi
  exact ⟨g, s, hc 0 _ rfl, hc 1 _ rfl, hc 2 _ rfl, hc 3 _ rfl, hg, hs⟩
structure PlI (p : Pl) : Prop where
  guard : RawI p.guard
  var : I64 p.var
  value : RawI p.value
structure DnI (d : Dn) : Prop where
  s0 : I64 d.s0
  s1 : I64 d.s1
  l0 : I64 d.l0
  l1 : I64 d.l1
  i0 : I64 d.i0
  i1 : I64 d.i1
  rules : ∀ p ∈ d.rules, PlI p
def OwnTm (k : Nat) (w : World) (v : Value) (t : Tm) : Prop := w.ownsRow k 36 2 v t.flat.length (t.flat.flatMap opc)
theorem OwnTm.isT {k : Nat} {w : World} {v : Value} {t : Tm} (h : OwnTm k w v t) : IsT w v t := isT_own h
theorem OwnTm.ext {k : Nat} {w w' : World} {v : Value} {t : Tm} (h : OwnTm k w v t) (hb : Ext w w') : OwnTm k w' v t := own_ext h hb
theorem own_all {w : World} {k : Nat} {e : TypeId} {size n : Nat} {v : Value} {xs : List Value} (h : w.ownsRow k e size v n xs) {x : World} (hx : ∀ b, k ≤ b → b < w.heap.size → x.heap[b]? = w.heap[b]?) : x.ownsRow k e size v n xs := by
  refine ⟨h.1, ?_⟩
  rcases h.2 with hn | ⟨g, cap, cur, rfl, h1, hg, rest⟩
  · exact .inl hn
  · exact .inr ⟨g, cap, cur, rfl, h1, by rw [hx g h1 (Array.getElem?_eq_some_iff.1 hg).1]; exact hg, rest⟩
def OwnSets (k : Nat) (w : World) (v : Value) (ss : List (Int × Tm)) : Prop :=
  ∃ css : List (List Value), css.length = ss.length ∧ (∀ cs ∈ css, cs.length = 2) ∧ w.ownsRow k 45 2 v ss.length css.flatten ∧
    ∀ (i : Nat) (cs : List Value) (s : Int × Tm), css[i]? = some cs → ss[i]? = some s → ∃ u, cs = [.int .i64 s.1, u] ∧ OwnTm k w u s.2
theorem OwnSets.isSets {k : Nat} {w : World} {v : Value} {ss : List (Int × Tm)} (h : OwnSets k w v ss) : IsSets w v ss := by
  obtain ⟨css, h1, h2, h3, h4⟩ := h
  refine ⟨css, h1, h2, h3.reads, fun i cs s a b => ?_⟩
  obtain ⟨u, e, hu⟩ := h4 i cs s a b
  exact ⟨u, e, hu.isT⟩
theorem OwnSets.ext {k : Nat} {w w' : World} {v : Value} {ss : List (Int × Tm)} (h : OwnSets k w v ss) (hb : Ext w w') : OwnSets k w' v ss := by
  obtain ⟨css, h1, h2, h3, h4⟩ := h
  refine ⟨css, h1, h2, own_ext h3 hb, fun i cs s a b => ?_⟩
  obtain ⟨u, e, hu⟩ := h4 i cs s a b
  exact ⟨u, e, hu.ext hb⟩
theorem OwnSets.all {k : Nat} {w x : World} {v : Value} {ss : List (Int × Tm)} (h : OwnSets k w v ss) (hx : ∀ b, k ≤ b → b < w.heap.size → x.heap[b]? = w.heap[b]?) : OwnSets k x v ss := by
  obtain ⟨css, h1, h2, h3, h4⟩ := h
  refine ⟨css, h1, h2, own_all h3 hx, fun i cs s a b => ?_⟩
  obtain ⟨u, e, hu⟩ := h4 i cs s a b
  exact ⟨u, e, own_all hu hx⟩
theorem ownSets_one {k : Nat} {w : World} {v u : Value} {s : Int × Tm} (h : w.ownsRow k 45 2 v 1 [.int .i64 s.1, u]) (hu : OwnTm k w u s.2) : OwnSets k w v [s] := by
  refine ⟨[[.int .i64 s.1, u]], rfl, by simp, by simpa using h, fun i cs x a b => ?_⟩
  cases i with
  | zero => simp at a b; subst a; subst b; exact ⟨u, rfl, hu⟩
  | succ i => simp at a
theorem ownSets_two {k : Nat} {w : World} {v u u' : Value} {s s' : Int × Tm} (h : w.ownsRow k 45 2 v 2 [.int .i64 s.1, u, .int .i64 s'.1, u']) (hu : OwnTm k w u s.2) (hu' : OwnTm k w u' s'.2) : OwnSets k w v [s, s'] := by
  refine ⟨[[.int .i64 s.1, u], [.int .i64 s'.1, u']], rfl, by simp, by simpa using h, fun i cs x a b => ?_⟩
  match i with
  | 0 => simp at a b; subst a; subst b; exact ⟨u, rfl, hu⟩
  | 1 => simp at a b; subst a; subst b; exact ⟨u', rfl, hu'⟩
  | i + 2 => simp at a
structure RMem (τ : Nat → Nat) (B : Nat) (w : World) (rv : Value) (l : List Rl) : Prop where
  lo : ∀ b, b < B → τ b = 0
  size : B ≤ w.heap.size
  row : ∃ css : List (List Value), css.length = l.length ∧ (∀ cs ∈ css, cs.length = 2) ∧ OwnT τ 1 w B 40 2 rv l.length css.flatten ∧
    Ent τ 2 w fun x => ∀ (i : Nat) (cs : List Value) (r : Rl), css[i]? = some cs → l[i]? = some r → RuleE x r cs
theorem RMem.nil (w : World) (B : Nat) (h : B ≤ w.heap.size) : RMem (fun _ => 0) B w (.slice none 0 0) [] :=
  ⟨fun _ _ => rfl, h, [], rfl, by simp, OwnT.nil _ _ _ _ _ _, fun x _ _ i cs r hc => by simp at hc⟩
theorem RMem.ext {τ : Nat → Nat} {B : Nat} {w w' : World} {rv : Value} {l : List Rl} (h : RMem τ B w rv l) (hE : Ext w w') : RMem τ B w' rv l := by
  obtain ⟨css, h1, h2, h3, h4⟩ := h.row
  exact ⟨h.lo, Nat.le_trans h.size hE.size, css, h1, h2, h3.ext hE, h4.ext hE⟩
theorem RMem.low {τ : Nat → Nat} {B : Nat} {w : World} {rv : Value} {l : List Rl} (h : RMem τ B w rv l) {p : Addr} (hp : p.block < B) (v : Value) : RMem τ B (w.setCell p v) rv l := by
  obtain ⟨css, h1, h2, h3, h4⟩ := h.row
  exact ⟨h.lo, by simpa using h.size, css, h1, h2, h3.low hp v, h4.set (by rw [h.lo _ hp]; omega) v⟩
theorem RMem.isRules {τ : Nat → Nat} {B : Nat} {w : World} {rv : Value} {l : List Rl} (h : RMem τ B w rv l) : IsRules w rv l := by
  obtain ⟨css, h1, h2, h3, h4⟩ := h.row
  exact ⟨css, h1, h2, h3.reads, h4.now⟩
theorem RMem.own {τ : Nat → Nat} {B : Nat} {w : World} {rv : Value} {l : List Rl} (h : RMem τ B w rv l) : ∃ css : List (List Value), css.length = l.length ∧ (∀ cs ∈ css, cs.length = 2) ∧ w.ownsRow B 40 2 rv l.length css.flatten := by
  obtain ⟨css, h1, h2, h3, _⟩ := h.row
  exact ⟨css, h1, h2, h3.own⟩
theorem RMem.push {τ : Nat → Nat} {B : Nat} {w w7 w8 : World} {rv rv' g s : Value} {l : List Rl} {r : Rl} {css : List (List Value)} (h : RMem τ B w rv l) (hE : Ext w w7) (hg : OwnTm w.heap.size w7 g r.guard) (hs : OwnSets w.heap.size w7 s r.sets)
    (k1 : css.length = l.length) (k2 : ∀ cs ∈ css, cs.length = 2) (k3 : OwnT τ 1 w B 40 2 rv l.length css.flatten) (k4 : Ent τ 2 w fun x => ∀ (i : Nat) (cs : List Value) (r : Rl), css[i]? = some cs → l[i]? = some r → RuleE x r cs) (ho : w8.ownsRow B 40 2 rv' (l.length + 1) (css.flatten ++ [g, s])) (hgr : w7.grownBy w8 rv.ownBlock)
    (hb : rv'.ownBlock = rv.ownBlock ∨ rv'.ownBlock = some w7.heap.size) : ∃ τ', RMem τ' B w8 rv' (l ++ [r]) := by
  have hBw := h.size
  have hlt : ∀ b, rv.ownBlock = some b → b < w.heap.size := fun b hb => (k3.own.lt b hb).2
  let τ1 := tagAt τ w.heap.size 2
  let τ2 := tagAt τ1 w7.heap.size 1
  have t1 : ∀ b, b < w.heap.size → τ1 b = τ b := fun b hb => tagAt_lt hb
  have hEs := hE.size
  refine ⟨τ2, fun b hb => ?_, ?_, css ++ [[g, s]], by simp [k1], ?_, ⟨by simpa using ho, ?_⟩, ?_⟩
  · show tagAt τ1 w7.heap.size 1 b = 0
    rw [tagAt_lt (by omega), t1 b (by omega)]
    exact h.lo b hb
  · have := hgr.size; omega
  · intro cs hc
    rcases List.mem_append.1 hc with hc | hc
    · exact k2 cs hc
    · simp at hc; subst hc; rfl
  · intro b hv
    rcases hb with e | e
    · rw [e] at hv
      show tagAt τ1 w7.heap.size 1 b = 1
      have := hlt b hv
      rw [tagAt_lt (by omega), t1 b this]
      exact k3.tag b hv
    · rw [e] at hv
      injection hv with hv
      exact tagAt_ge (by omega)
  · intro x hx hbx i cs r' hc hr
    have hold : ∀ b, b < w.heap.size → τ b = 2 → x.heap[b]? = w.heap[b]? := by
      intro b hb1 hb2
      have n1 : some b ≠ rv.ownBlock := by
        intro e
        have := k3.tag b e.symm
        omega
      have e1 : τ2 b = 2 := by
        show tagAt τ1 w7.heap.size 1 b = 2
        rw [tagAt_lt (by omega), t1 b hb1]; exact hb2
      rw [hbx b (by have := hgr.size; omega) e1, hgr.block b (by omega) n1, hE.block b hb1]
    have hnew : ∀ b, w.heap.size ≤ b → b < w7.heap.size → x.heap[b]? = w7.heap[b]? := by
      intro b hb1 hb2
      have n1 : some b ≠ rv.ownBlock := by
        intro e
        have := hlt b e.symm
        omega
      have e1 : τ2 b = 2 := by
        show tagAt τ1 w7.heap.size 1 b = 2
        rw [tagAt_lt hb2]
        exact tagAt_ge hb1
      rw [hbx b (by have := hgr.size; omega) e1, hgr.block b hb2 n1]
    by_cases hi : i < l.length
    · rw [List.getElem?_append_left (by omega)] at hc hr
      exact k4 x (by have := hgr.size; omega) hold i cs r' hc hr
    · rw [List.getElem?_append_right (by omega)] at hc hr
      have e0 : i - l.length = 0 := by have := (List.getElem?_eq_some_iff.1 hr).1; simp at this; omega
      rw [k1, e0] at hc
      rw [e0] at hr
      simp at hc hr
      subst hc; subst hr
      exact ⟨g, s, rfl, OwnTm.isT (own_all hg hnew), OwnSets.isSets (hs.all hnew)⟩
end Go.Proofs.YtopkbjfjncpjdaaDoor
