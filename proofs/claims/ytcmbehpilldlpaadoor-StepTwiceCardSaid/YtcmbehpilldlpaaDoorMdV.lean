/- Several texts in one: MdX; MdV. No condition. -/
import Derived.Test.YtcmbehpilldlpaaDoorMdI
import Derived.Test.YtcmbehpilldlpaaDoorMdN
namespace Go.Proofs.YtcmbehpilldlpaaDoor
open Go.RowKit

set_option maxRecDepth 100000 in
theorem two_of {W : World} {a b : Value} (h : Cells Tryd.prog W 22 [a, b]) : ∃ m n, a = .int .i64 m ∧ b = .int .i64 n ∧ I64 m ∧ I64 n := by
  have c1 : Tryd.prog.cellsOf 3 = 1 := by kernel_rfl
  obtain ⟨_, hc⟩ := h.array Tryd.underlying22
  have f0 : Cells Tryd.prog W 3 [a] := by have := hc 0 (by omega); simpa [c1] using this
  have f1 : Cells Tryd.prog W 3 [b] := by have := hc 1 (by omega); simpa [c1] using this
  obtain ⟨m, e0, i0⟩ := Cells.i64 Tryd.underlying3 f0
  obtain ⟨n, e1, i1⟩ := Cells.i64 Tryd.underlying3 f1
  simp at e0 e1
  exact ⟨m, n, e0, e1, i0, i1⟩

set_option maxRecDepth 100000 in
theorem plan_of {W : World} {cs : List Value} (hl : cs.length = 4) (h : Cells Tryd.prog W 65 cs) : ∃ p, PlanE W p cs ∧ PlI p := by
  obtain ⟨_, hf⟩ := h.field Tryd.underlying65
  have c1 : Tryd.prog.cellsOf 3 = 1 := by kernel_rfl
  have c2 : Tryd.prog.cellsOf 63 = 1 := by kernel_rfl
  have c3 : Tryd.prog.cellsOf 4 = 1 := by kernel_rfl
  match cs, hl with
  | [a, b, c, d], _ =>
    have f0 : Cells Tryd.prog W 63 [a] := by have := hf 0 _ rfl; simpa [c2] using this
    have f1 : Cells Tryd.prog W 3 [b] := by have := hf 1 _ rfl; simpa [c1] using this
    have f2 : Cells Tryd.prog W 63 [c] := by have := hf 2 _ rfl; simpa [c2] using this
    have f3 : Cells Tryd.prog W 4 [d] := by have := hf 3 _ rfl; simpa [c3] using this
    obtain ⟨r0, o0, i0⟩ := raw_of f0
    obtain ⟨n, e1, i1⟩ := Cells.i64 Tryd.underlying3 f1
    obtain ⟨r2, o2, i2⟩ := raw_of f2
    obtain ⟨x, e3⟩ := Cells.bool Tryd.underlying4 f3
    simp at e1 e3
    subst e1; subst e3
    exact ⟨⟨r0, n, r2, x⟩, ⟨a, c, rfl, o0, o2⟩, i0, i1, i2⟩

set_option maxRecDepth 100000 in
theorem design_of {W : World} {cs : Array Value} (h : Cells Tryd.prog W 25 cs.toList) : ∃ d pv, cs = dnc d pv ∧ IsPlans W pv d.rules ∧ DnI d := by
  obtain ⟨hl, hf⟩ := h.field Tryd.underlying25
  have hsz : Tryd.prog.cellsOf 25 = 7 := by kernel_rfl
  have c1 : Tryd.prog.cellsOf 22 = 2 := by kernel_rfl
  have c2 : Tryd.prog.cellsOf 23 = 1 := by kernel_rfl
  rw [hsz] at hl
  obtain ⟨l, rfl⟩ : ∃ l : List Value, cs = l.toArray := ⟨cs.toList, by simp⟩
  simp only at hl hf
  match l, hl with
  | [a0, a1, b0, b1, d0, d1, pv], _ =>
    have f0 : Cells Tryd.prog W 22 [a0, a1] := by have := hf 0 _ rfl; simpa [c1] using this
    have f1 : Cells Tryd.prog W 22 [b0, b1] := by have := hf 1 _ rfl; simpa [c1] using this
    have f2 : Cells Tryd.prog W 22 [d0, d1] := by have := hf 2 _ rfl; simpa [c1] using this
    have f3 : Cells Tryd.prog W 23 [pv] := by have := hf 3 _ rfl; simpa [c2] using this
    obtain ⟨s0, s1, rfl, rfl, i0, i1⟩ := two_of f0
    obtain ⟨l0, l1, rfl, rfl, i2, i3⟩ := two_of f1
    obtain ⟨n0, n1, rfl, rfl, i4, i5⟩ := two_of f2
    obtain ⟨a, cap, xss, hv, hr, hx⟩ := f3.slice (sz := 4) Tryd.underlying23 (by kernel_rfl)
    simp only [List.cons.injEq, and_true] at hv
    obtain ⟨rs, hrl, hrs⟩ := list_of (n := xss.length) (p := fun i (x : Pl) => ∀ xs, xss[i]? = some xs → PlanE W x xs ∧ PlI x) fun i hi => by
      obtain ⟨h4, hc⟩ := hx xss[i] (by simp)
      obtain ⟨p, h1, h2⟩ := plan_of h4 hc
      refine ⟨p, fun xs he => ?_⟩
      rw [List.getElem?_eq_getElem hi] at he
      obtain rfl := Option.some.inj he
      exact ⟨h1, h2⟩
    refine ⟨⟨s0, s1, l0, l1, n0, n1, rs⟩, pv, rfl, ⟨xss, hrl.symm, fun cs hc => (hx cs hc).1, ⟨a, cap, by rw [hv, hrl], by rw [hrl]; exact hr⟩, fun i cs x hc hx' => (hrs i x hx' cs hc).1⟩, ⟨i0, i1, i2, i3, i4, i5, fun p hp => ?_⟩⟩
    obtain ⟨i, hi, e⟩ := List.mem_iff_getElem.1 hp
    have h2 : rs[i]? = some p := by rw [← e]; exact List.getElem?_eq_getElem hi
    exact (hrs i p h2 xss[i] (List.getElem?_eq_getElem (by rw [← hrl]; exact hi))).2

end Go.Proofs.YtcmbehpilldlpaaDoor

namespace Go.Proofs.YtcmbehpilldlpaaDoor
open Go.RowKit

set_option maxRecDepth 100000 in
set_option maxHeartbeats 8000000 in
theorem values_out (vv rv : Value) (m : Md) (c : Int) (w : World) (h : IsMd w vv rv m) (ht : Tab w) (hp : m.Ok) (hc : c < 0 ∨ countL m.vars ≤ c) :
    Calls Tryd.prog 19 #[.agg #[vv, rv], .int .i64 c] w fun e w' => e = .returned (.tuple #[.slice none 0 0, .int .i64 9]) ∧ Ext w w' := by
  have hE0 := ext_al (Ext.refl w) (Obj.cells #[vv, rv] 29)
  have HCK := Lib.hid (count_any vv rv m _ (h.ext hE0) (ht.ext hE0) hp)
  obtain ⟨av, cv, rfl⟩ := EachL.val h.vars
  obtain ⟨a, c', rfl⟩ := EachL.val h.rules
  have HE := Lib.hid hE0
  clear h hp ht hE0
  generalize m.rules.length = nr at *
  generalize m.vars = l at *
  generalize countL l = N at *
  generalize l.length = nv at *
  go_enter Tryd.func19, Tryd.ntmps19
  go_wp2_with fail
  generalize w.alloc (Obj.cells #[.slice av nv cv, .slice a nr c'] 29) = W1 at *
  refine HCK.out.mono ?_
  rintro e w2 ⟨rfl, hE2⟩
  have HE2 := Lib.hid (HE.out.trans hE2)
  clear hE2 HCK HE
  by_cases h0 : c < 0
  · clear hc
    go_wp2
    go_ret2
    exact ⟨rfl, HE2.out⟩
  · have hc1 : N ≤ c := by omega
    clear hc
    go_wp2
    go_ret2
    exact ⟨rfl, HE2.out⟩

/-- What the laws know of a model that they drew. -/
structure Drawn (m : Md) : Prop where
  ok : m.Ok
  two : m.vars.length = 2
  n1 : 1 ≤ countL m.vars
  n16 : countL m.vars ≤ 16
  five : m.rules.length ≤ 5
theorem Dn.drawn (d : Dn) : Drawn d.md := ⟨d.ok, rfl, d.span.1, d.span.2, d.rules_len⟩

theorem IsMd.shape {w : World} {vv rv : Value} {m : Md} (h : IsMd w vv rv m) (h2 : m.vars.length = 2) : ∃ av cv ar cr, vv = .slice av 2 cv ∧ rv = .slice ar m.rules.length cr := by
  obtain ⟨av, cv, rfl⟩ := EachL.val h.vars
  obtain ⟨a, c', rfl⟩ := EachL.val h.rules
  exact ⟨av, cv, a, c', by rw [h2], rfl⟩

set_option maxRecDepth 100000 in
set_option maxHeartbeats 8000000 in
theorem codeBack_walk (pv : Value) (d : Dn) (c : Int) (W : World) (ht : Tab W) (hpl : IsPlans W pv d.rules) (hd : DnI d) (hc : I64 c) :
    Calls Tryd.prog 6 #[.agg (dnc d pv), .int .i64 c] W fun e w' => e = .returned (.bool true) ∧ Ext W w' := by
  have EE := ext_al (Ext.refl W) (Obj.cells (dnc d pv) 25)
  have HMO := Lib.hid (model_any pv d _ (hpl.ext EE) hd)
  have D := d.drawn
  have HEE := Lib.hid EE
  have HTB := Lib.hid (ht.ext EE)
  obtain ⟨c1, c2⟩ := hc
  generalize d.md = m at *
  simp only [dnc] at HMO HEE HTB ⊢
  clear ht hpl hd EE
  go_enter Tryd.func6, Tryd.ntmps6
  go_wp2_with fail
  generalize W.alloc (Obj.cells #[.int .i64 d.s0, .int .i64 d.s1, .int .i64 d.l0, .int .i64 d.l1, .int .i64 d.i0, .int .i64 d.i1, pv] 25) = W0 at *
  refine HMO.out.mono ?_
  rintro e w1 ⟨vv, rv, rfl, hM, hE1⟩
  obtain ⟨av, cv, ar, cr, rfl, rfl⟩ := hM.shape D.two
  have hx := ext_al (Ext.refl w1) (Obj.cells #[.slice av 2 cv, .slice ar m.rules.length cr] 29)
  have hb := blk_new w1 (Obj.cells #[.slice av 2 cv, .slice ar m.rules.length cr] 29)
  have HM := Lib.hid (hM.ext hx)
  have HX := Lib.hid (HEE.out.trans (hE1.trans hx))
  have HT := Lib.hid (HTB.out.ext (hE1.trans hx))
  have HB := Lib.hid hb
  have m0 := blk_cell hb (i := 0) rfl
  have m1 := blk_cell hb (i := 1) rfl
  clear hM hE1 hx hb HMO HEE HTB
  have hn1 := D.n1
  have hn16 := D.n16
  have HD := Lib.hid D
  clear D
  go_wp2_with fail
  generalize w1.alloc (Obj.cells #[.slice av 2 cv, .slice ar m.rules.length cr] 29) = W2 at *
  refine (count_any _ _ m W2 HM.out HT.out HD.out.ok).mono ?_
  rintro e w3 ⟨rfl, hE3⟩
  have HE3 := Lib.hid hE3
  have m0 := cell_later hE3 m0
  have m1 := cell_later hE3 m1
  clear hE3
  obtain ⟨N, hN⟩ : ∃ N, countL m.vars = N := ⟨_, rfl⟩
  rw [hN] at hn1 hn16 ⊢
  have HN := Lib.hid hN
  clear hN
  go_wp2_with fail
  refine (picked_any c N _ c1 c2 (by omega) (by omega)).mono ?_
  rintro e w' ⟨rfl, rfl⟩
  have hb := pk_bd c N (by omega)
  generalize pk c N = k at *
  go_wp2_with fail
  refine (values_any _ _ m k w3 (HM.out.ext HE3.out) (HT.out.ext HE3.out) HD.out.ok hb.1 (by rw [HN.out]; exact hb.2)).mono ?_
  rintro e w4 ⟨xv, rfl, hox, hE4⟩
  rw [HD.out.two] at hox
  have HE4 := Lib.hid (HE3.out.trans hE4)
  have m0 := cell_later hE4 m0
  have m1 := cell_later hE4 m1
  have HXI := Lib.hid (show Ints w4 xv (valsL m.vars k) from by
    unfold Ints
    rw [valsL_len, HD.out.two]
    exact hox.reads)
  obtain ⟨ax, cx, rfl, _⟩ := hox.row
  clear hox hE4
  go_wp2_with fail
  refine (code_any _ _ _ m _ w4 (HM.out.ext HE4.out) (HT.out.ext HE4.out) HD.out.ok HXI.out (fun x hx => by
    have := inV_small HD.out.ok.vars (digL_in HD.out.ok.vars k) x hx
    unfold I64; omega)).mono ?_
  rintro e w5 ⟨n, k2, rfl, hce, hE5⟩
  obtain ⟨rfl, rfl⟩ : n = k ∧ k2 = 0 := by
    rcases hce with ⟨_, h1, h2⟩ | ⟨h1, _⟩
    · exact ⟨h1.trans (code_valsL HD.out.ok.vars k hb.1 (by rw [HN.out]; exact hb.2)), h2⟩
    · exact absurd (digL_in HD.out.ok.vars k) h1
  have HE5 := Lib.hid (HE4.out.trans hE5)
  have m0 := cell_later hE5 m0
  have m1 := cell_later hE5 m1
  clear hce hE5
  go_wp2_with fail
  refine (values_out _ _ m N w5 (HM.out.ext HE5.out) (HT.out.ext HE5.out) HD.out.ok (.inr (by rw [HN.out]; omega))).mono ?_
  rintro e w6 ⟨rfl, hE6⟩
  have HE6 := Lib.hid (HE5.out.trans hE6)
  have m0 := cell_later hE6 m0
  have m1 := cell_later hE6 m1
  clear hE6
  go_wp2_with fail
  refine (mcheck_ok _ _ m w6 (HM.out.ext HE6.out) (HT.out.ext HE6.out) HD.out.ok).mono ?_
  rintro e w7 ⟨rfl, hE7⟩
  have HE7 := Lib.hid (HX.out.trans (HE6.out.trans hE7))
  clear hE7
  go_wp2
  go_ret
  exact ⟨rfl, HE7.out⟩

theorem codeBack_law (cs : Array Value) (v1 : Value) (W : World) (ht : Tab W) (h0 : Cells Tryd.prog W 25 cs.toList) (h1 : Cells Tryd.prog W 3 [v1]) :
    Calls Tryd.prog 6 #[.agg cs, v1] W fun e w' => e = .returned (.bool true) ∧ Ext W w' := by
  obtain ⟨d, pv, rfl, hpl, hd⟩ := design_of h0
  obtain ⟨c, hc, hc2⟩ := h1.i64 Tryd.underlying3
  cases hc
  exact codeBack_walk pv d c W ht hpl hd hc2

end Go.Proofs.YtcmbehpilldlpaaDoor
