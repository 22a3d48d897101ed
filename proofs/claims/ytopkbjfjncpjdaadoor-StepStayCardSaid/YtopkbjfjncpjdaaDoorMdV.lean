/- MdV: what is needed of it. No condition. -/
import Derived.Test.YtopkbjfjncpjdaaDoorMdI
import Derived.Test.YtopkbjfjncpjdaaDoorMdN
namespace Go.Proofs.YtopkbjfjncpjdaaDoor
open Go.RowKit
set_option maxRecDepth 100000 in
theorem two_of {W : World} {a b : Value} (h : Cells Tryd.prog W 22 [a, b]) : ∃ m n, a = .int .i64 m ∧ b = .int .i64 n ∧ I64 m ∧ I64 n := by
  have c1 : Tryd.prog.cellsOf 3 = 1 := by kernel_rfl
  obtain ⟨_, hc⟩ := h.array Tryd.underlying22
  have f0 : Cells Tryd.prog W 3 [a] := by have := hc 0 (by omega); simpa [c1] using this
  have f1 : Cells Tryd.prog W 3 [b] := by have := hc 1 (by omega); simpa [c1] using this
  obtain ⟨m, e0, i0⟩ := Cells.i64 Tryd.underlying3 f0
  obtain ⟨n, e1, i1⟩ := Cells.i64 Tryd.underlying3 f1
  simp at e0 e1
  exact ⟨m, n, e0, e1, i0, i1⟩
set_option maxRecDepth 100000 in
theorem plan_of {W : World} {cs : List Value} (hl : cs.length = 4) (h : Cells Tryd.prog W 55 cs) : ∃ p, PlanE W p cs ∧ PlI p := by
  obtain ⟨_, hf⟩ := h.field Tryd.underlying55
  have c1 : Tryd.prog.cellsOf 3 = 1 := by kernel_rfl
  have c2 : Tryd.prog.cellsOf 53 = 1 := by kernel_rfl
  have c3 : Tryd.prog.cellsOf 4 = 1 := by kernel_rfl
  match cs, hl with
  | [a, b, c, d], _ =>
    have f0 : Cells Tryd.prog W 53 [a] := by have := hf 0 _ rfl; simpa [c2] using this
    have f1 : Cells Tryd.prog W 3 [b] := by have := hf 1 _ rfl; simpa [c1] using this
    have f2 : Cells Tryd.prog W 53 [c] := by have := hf 2 _ rfl; simpa [c2] using this
    have f3 : Cells Tryd.prog W 4 [d] := by have := hf 3 _ rfl; simpa [c3] using this
    obtain ⟨r0, o0, i0⟩ := raw_of f0
    obtain ⟨n, e1, i1⟩ := Cells.i64 Tryd.underlying3 f1
    obtain ⟨r2, o2, i2⟩ := raw_of f2
    obtain ⟨x, e3⟩ := Cells.bool Tryd.underlying4 f3
    simp at e1 e3
    subst e1; subst e3
    exact ⟨⟨r0, n, r2, x⟩, ⟨a, c, rfl, o0, o2⟩, i0, i1, i2⟩
set_option maxRecDepth 100000 in
theorem design_of {W : World} {cs : Array Value} (h : Cells Tryd.prog W 25 cs.toList) : ∃ d pv, cs = dnc d pv ∧ IsPlans W pv d.rules ∧ DnI d := by
  obtain ⟨hl, hf⟩ := h.field Tryd.underlying25
  have hsz : Tryd.prog.cellsOf 25 = 7 := by kernel_rfl
  have c1 : Tryd.prog.cellsOf 22 = 2 := by kernel_rfl
  have c2 : Tryd.prog.cellsOf 23 = 1 := by kernel_rfl
  rw [hsz] at hl
  obtain ⟨l, rfl⟩ : ∃ l : List Value, cs = l.toArray := ⟨cs.toList, by simp⟩
  simp only at hl hf
  match l, hl with
  | [a0, a1, b0, b1, d0, d1, pv], _ =>
    have f0 : Cells Tryd.prog W 22 [a0, a1] := by have := hf 0 _ rfl; simpa [c1] using this
    have f1 : Cells Tryd.prog W 22 [b0, b1] := by have := hf 1 _ rfl; simpa [c1] using this
    have f2 : Cells Tryd.prog W 22 [d0, d1] := by have := hf 2 _ rfl; simpa [c1] using this
    have f3 : Cells Tryd.prog W 23 [pv] := by have := hf 3 _ rfl; simpa [c2] using this
    obtain ⟨s0, s1, rfl, rfl, i0, i1⟩ := two_of f0
    obtain ⟨l0, l1, rfl, rfl, i2, i3⟩ := two_of f1
    obtain ⟨n0, n1, rfl, rfl, i4, i5⟩ := two_of f2
    obtain ⟨a, cap, xss, hv, hr, hx⟩ := f3.slice (sz := 4) Tryd.underlying23 (by kernel_rfl)
    simp only [List.cons.injEq, and_true] at hv
    obtain ⟨rs, hrl, hrs⟩ := list_of (n := xss.length) (p := fun i (x : Pl) => ∀ xs, xss[i]? = some xs → PlanE W x xs ∧ PlI x) fun i hi => by
      obtain ⟨h4, hc⟩ := hx xss[i] (by simp)
      obtain ⟨p, h1, h2⟩ := plan_of h4 hc
      refine ⟨p, fun xs he => ?_⟩
      rw [List.getElem?_eq_getElem hi] at he
      obtain rfl := Option.some.inj he
      exact ⟨h1, h2⟩
    refine ⟨⟨s0, s1, l0, l1, n0, n1, rs⟩, pv, rfl, ⟨xss, hrl.symm, fun cs hc => (hx cs hc).1, ⟨a, cap, by rw [hv, hrl], by rw [hrl]; exact hr⟩, fun i cs x hc hx' => (hrs i x hx' cs hc).1⟩, ⟨i0, i1, i2, i3, i4, i5, fun p hp => ?_⟩⟩
    obtain ⟨i, hi, e⟩ := List.mem_iff_getElem.1 hp
    have h2 : rs[i]? = some p := by rw [← e]; exact List.getElem?_eq_getElem hi
    exact (hrs i p h2 xss[i] (List.getElem?_eq_getElem (by rw [← hrl]; exact hi))).2
end Go.Proofs.YtopkbjfjncpjdaaDoor
namespace Go.Proofs.YtopkbjfjncpjdaaDoor
open Go.RowKit
structure Drawn (m : Md) : Prop where
  ok : m.Ok
  two : m.vars.length = 2
  n1 : 1 ≤ countL m.vars
  n16 : countL m.vars ≤ 16
  five : m.rules.length ≤ 5
theorem Dn.drawn (d : Dn) : Drawn d.md := ⟨d.ok, rfl, d.span.1, d.span.2, d.rules_len⟩
theorem IsMd.shape {w : World} {vv rv : Value} {m : Md} (h : IsMd w vv rv m) (h2 : m.vars.length = 2) : ∃ av cv ar cr, vv = .slice av 2 cv ∧ rv = .slice ar m.rules.length cr := by
  obtain ⟨av, cv, rfl⟩ := EachL.val h.vars
  obtain ⟨a, c', rfl⟩ := EachL.val h.rules
  exact ⟨av, cv, a, c', by rw [h2], rfl⟩
end Go.Proofs.YtopkbjfjncpjdaaDoor
