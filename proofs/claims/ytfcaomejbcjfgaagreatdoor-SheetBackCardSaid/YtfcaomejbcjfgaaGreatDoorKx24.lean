/- Several texts in one: MdV; MdR; MdX. No condition. -/
import Derived.Test.YtfcaomejbcjfgaaGreatDoorKx16
import Derived.Test.YtfcaomejbcjfgaaGreatDoorKx23
import Derived.Deep.DeepCutAuto
import Derived.Deep.RegionLaw
namespace Go.Proofs.YtfcaomejbcjfgaaGreatDoor
open Go.RowKit
set_option maxRecDepth 100000 in
theorem two_of {W : World} {a b : Value} (h : Cells Tryz.prog W 22 [a, b]) : ∃ m n, a = .int .i64 m ∧ b = .int .i64 n ∧ I64 m ∧ I64 n := by
  have c1 : Tryz.prog.cellsOf 3 = 1 := by kernel_rfl
  obtain ⟨_, hc⟩ := h.array Tryz.underlying22
  have f0 : Cells Tryz.prog W 3 [a] := by have := hc 0 (by omega); simpa [c1] using this
  have f1 : Cells Tryz.prog W 3 [b] := by have := hc 1 (by omega); simpa [c1] using this
  obtain ⟨m, e0, i0⟩ := Cells.i64 Tryz.underlying3 f0
  obtain ⟨n, e1, i1⟩ := Cells.i64 Tryz.underlying3 f1
  simp at e0 e1
  exact ⟨m, n, e0, e1, i0, i1⟩
set_option maxRecDepth 100000 in
theorem plan_of {W : World} {cs : List Value} (hl : cs.length = 4) (h : Cells Tryz.prog W 82 cs) : ∃ p, PlanE W p cs ∧ PlI p := by
  obtain ⟨_, hf⟩ := h.field Tryz.underlying82
  have c1 : Tryz.prog.cellsOf 3 = 1 := by kernel_rfl
  have c2 : Tryz.prog.cellsOf 26 = 1 := by kernel_rfl
  have c3 : Tryz.prog.cellsOf 4 = 1 := by kernel_rfl
  match cs, hl with
  | [a, b, c, d], _ =>
    have f0 : Cells Tryz.prog W 26 [a] := by have := hf 0 _ rfl; simpa [c2] using this
    have f1 : Cells Tryz.prog W 3 [b] := by have := hf 1 _ rfl; simpa [c1] using this
    have f2 : Cells Tryz.prog W 26 [c] := by have := hf 2 _ rfl; simpa [c2] using this
    have f3 : Cells Tryz.prog W 4 [d] := by have := hf 3 _ rfl; simpa [c3] using this
    obtain ⟨r0, o0, i0⟩ := raw_of f0
    obtain ⟨n, e1, i1⟩ := Cells.i64 Tryz.underlying3 f1
    obtain ⟨r2, o2, i2⟩ := raw_of f2
    obtain ⟨x, e3⟩ := Cells.bool Tryz.underlying4 f3
    simp at e1 e3
    subst e1; subst e3
    exact ⟨⟨r0, n, r2, x⟩, ⟨a, c, rfl, o0, o2⟩, i0, i1, i2⟩
set_option maxRecDepth 100000 in
theorem design_of {W : World} {cs : Array Value} (h : Cells Tryz.prog W 25 cs.toList) : ∃ d pv, cs = dnc d pv ∧ IsPlans W pv d.rules ∧ DnI d := by
  obtain ⟨hl, hf⟩ := h.field Tryz.underlying25
  have hsz : Tryz.prog.cellsOf 25 = 7 := by kernel_rfl
  have c1 : Tryz.prog.cellsOf 22 = 2 := by kernel_rfl
  have c2 : Tryz.prog.cellsOf 23 = 1 := by kernel_rfl
  rw [hsz] at hl
  obtain ⟨l, rfl⟩ : ∃ l : List Value, cs = l.toArray := ⟨cs.toList, by simp⟩
  simp only at hl hf
  match l, hl with
  | [a0, a1, b0, b1, d0, d1, pv], _ =>
    have f0 : Cells Tryz.prog W 22 [a0, a1] := by have := hf 0 _ rfl; simpa [c1] using this
    have f1 : Cells Tryz.prog W 22 [b0, b1] := by have := hf 1 _ rfl; simpa [c1] using this
    have f2 : Cells Tryz.prog W 22 [d0, d1] := by have := hf 2 _ rfl; simpa [c1] using this
    have f3 : Cells Tryz.prog W 23 [pv] := by have := hf 3 _ rfl; simpa [c2] using this
    obtain ⟨s0, s1, rfl, rfl, i0, i1⟩ := two_of f0
    obtain ⟨l0, l1, rfl, rfl, i2, i3⟩ := two_of f1
    obtain ⟨n0, n1, rfl, rfl, i4, i5⟩ := two_of f2
    obtain ⟨a, cap, xss, hv, hr, hx⟩ := f3.slice (sz := 4) Tryz.underlying23 (by kernel_rfl)
    simp only [List.cons.injEq, and_true] at hv
    obtain ⟨rs, hrl, hrs⟩ := list_of (n := xss.length) (p := fun i (x : Pl) => ∀ xs, xss[i]? = some xs → PlanE W x xs ∧ PlI x) fun i hi => by
      obtain ⟨h4, hc⟩ := hx xss[i] (by simp)
      obtain ⟨p, h1, h2⟩ := plan_of h4 hc
      refine ⟨p, fun xs he => ?_⟩
      rw [List.getElem?_eq_getElem hi] at he
      obtain rfl := Option.some.inj he
      exact ⟨h1, h2⟩
    refine ⟨⟨s0, s1, l0, l1, n0, n1, rs⟩, pv, rfl, ⟨xss, hrl.symm, fun cs hc => (hx cs hc).1, ⟨a, cap, by rw [hv, hrl], by rw [hrl]; exact hr⟩, fun i cs x hc hx' => (hrs i x hx' cs hc).1⟩, ⟨i0, i1, i2, i3, i4, i5, fun p hp => ?_⟩⟩
    obtain ⟨i, hi, e⟩ := List.mem_iff_getElem.1 hp
    have h2 : rs[i]? = some p := by rw [← e]; exact List.getElem?_eq_getElem hi
    exact (hrs i p h2 xss[i] (List.getElem?_eq_getElem (by rw [← hrl]; exact hi))).2
end Go.Proofs.YtfcaomejbcjfgaaGreatDoor
namespace Go.Proofs.YtfcaomejbcjfgaaGreatDoor
open Go.RowKit
structure Drawn (m : Md) : Prop where
  ok : m.Ok
  two : m.vars.length = 2
  n1 : 1 ≤ countL m.vars
  n16 : countL m.vars ≤ 16
  five : m.rules.length ≤ 5
theorem Dn.drawn (d : Dn) : Drawn d.md := ⟨d.ok, rfl, d.span.1, d.span.2, d.rules_len⟩
theorem IsMd.shape {w : World} {vv rv : Value} {m : Md} (h : IsMd w vv rv m) (h2 : m.vars.length = 2) : ∃ av cv ar cr, vv = .slice av 2 cv ∧ rv = .slice ar m.rules.length cr := by
  obtain ⟨av, cv, rfl⟩ := EachL.val h.vars
  obtain ⟨a, c', rfl⟩ := EachL.val h.rules
  exact ⟨av, cv, a, c', by rw [h2], rfl⟩
end Go.Proofs.YtfcaomejbcjfgaaGreatDoor

namespace Go.Proofs.YtfcaomejbcjfgaaGreatDoor
open Go.RowKit
structure PropsOk (n : Int) (P : List Tm) : Prop where
  six : P.length ≤ 6
  each : ∀ p ∈ P, Sub p n ∧ p.size ≤ 60 ∧ mkK p.kind = true
end Go.Proofs.YtfcaomejbcjfgaaGreatDoor

namespace Go.Proofs.YtfcaomejbcjfgaaGreatDoor
open Go.RowKit
def tX : Tm := .n0 2 0
def tY : Tm := .n0 2 1
def t1 : Tm := .n0 1 1
def propT : List Tm := [.n2 7 0 tX t1, .n2 7 0 tX tY, .n2 6 0 tX tY]
theorem leaf_sub (k v : Int) (hk : k = 1 ∨ k = 2) (h0 : 0 ≤ v) (h1 : v ≤ 1) : Sub (.n0 k v) 2 := by
  have hv : v = 0 ∨ v = 1 := by omega
  refine ⟨?_, ?_, rfl⟩
  · simp only [Tm.ok]
    rcases hk with rfl | rfl <;> exact ⟨by omega, by omega, by decide⟩
  · intro o ho
    simp only [Tm.flat, List.mem_singleton] at ho
    subst ho
    rcases hk with rfl | rfl <;> rcases hv with rfl | rfl <;> decide
theorem cmp_sub (k : Int) (hk : k = 6 ∨ k = 7) {a b : Tm} (ha : Sub a 2) (hb : Sub b 2) (ka : mkK a.kind = false) (kb : mkK b.kind = false) : Sub (.n2 k 0 a b) 2 := by
  refine ⟨ok_n2 (by omega) ha.ok hb.ok, good_n2 (by omega) (by omega) ha.good hb.good, ?_⟩
  have ht : tkK k = false := by rcases hk with rfl | rfl <;> rfl
  simp [Tm.typed, ha.typed, hb.typed, ka, kb, ht]
theorem propT_ok : PropsOk 2 propT := by
  have hx := leaf_sub 2 0 (.inr rfl) (by omega) (by omega)
  have hy := leaf_sub 2 1 (.inr rfl) (by omega) (by omega)
  have h1 := leaf_sub 1 1 (.inl rfl) (by omega) (by omega)
  refine ⟨by decide, fun p hp => ?_⟩
  unfold propT at hp
  simp only [List.mem_cons, List.not_mem_nil, or_false] at hp
  rcases hp with rfl | rfl | rfl
  · exact ⟨cmp_sub 7 (.inr rfl) hx h1 rfl rfl, by decide, rfl⟩
  · exact ⟨cmp_sub 7 (.inr rfl) hx hy rfl rfl, by decide, rfl⟩
  · exact ⟨cmp_sub 6 (.inl rfl) hx hy rfl rfl, by decide, rfl⟩
theorem isT_lit (w : World) (T : TypeId) (k v : Int) (n : Nat) (hn : n = w.heap.size) : IsT (w.alloc (.cells #[.int .i64 k, .int .i64 v] T)) (.slice (some ⟨n, 0, none⟩) 1 1) (.n0 k v) :=
  ⟨_, _, rfl, Row.newK w T 2 n _ rfl hn⟩
theorem isTms_three {w : World} {a b c : Value} {x y z : Tm} (T : TypeId) (n : Nat) (hn : n = w.heap.size) (ha : IsT w a x) (hb : IsT w b y) (hc : IsT w c z) : IsTms (w.alloc (.cells #[a, b, c] T)) (.slice (some ⟨n, 0, none⟩) 3 3) [x, y, z] := by
  have hE := ext_al (Ext.refl w) (Obj.cells #[a, b, c] T)
  subst hn
  refine ⟨[[a], [b], [c]], rfl, by simp, ⟨_, _, rfl, Row.new w T [a, b, c] (by simp [maxLen])⟩, fun i cs s h1 h2 => ?_⟩
  match i with
  | 0 => simp at h1 h2; subst h1; subst h2; exact ⟨a, rfl, ha.ext hE⟩
  | 1 => simp at h1 h2; subst h1; subst h2; exact ⟨b, rfl, hb.ext hE⟩
  | 2 => simp at h1 h2; subst h1; subst h2; exact ⟨c, rfl, hc.ext hE⟩
  | i + 3 => simp at h1
set_option maxRecDepth 100000 in
set_option maxHeartbeats 8000000 in
theorem kprops_any (w : World) : Calls Tryz.prog 10 #[] w fun e w' => ∃ v, e = .returned v ∧ IsTms w' v propT ∧ Ext w w' := by
  have a1 := ext_al (Ext.refl w) (Obj.cells #[.int .i64 2, .int .i64 0] 79)
  have x1 := isT_lit w 79 2 0 _ rfl
  generalize hW1 : w.alloc (Obj.cells #[.int .i64 2, .int .i64 0] 79) = W1 at *
  have s1 : W1.heap.size = w.heap.size + 1 := by rw [← hW1]; simp
  have a2 := ext_al (Ext.refl W1) (Obj.cells #[.int .i64 2, .int .i64 1] 79)
  have y2 := isT_lit W1 79 2 1 (w.heap.size + 1) s1.symm
  generalize hW2 : W1.alloc (Obj.cells #[.int .i64 2, .int .i64 1] 79) = W2 at *
  have s2 : W2.heap.size = w.heap.size + 1 + 1 := by rw [← hW2]; simp [s1]
  have a3 := ext_al (Ext.refl W2) (Obj.cells #[.int .i64 1, .int .i64 1] 79)
  have z3 := isT_lit W2 79 1 1 (w.heap.size + 1 + 1) s2.symm
  generalize hW3 : W2.alloc (Obj.cells #[.int .i64 1, .int .i64 1] 79) = W3 at *
  have s3 : W3.heap.size = w.heap.size + 1 + 1 + 1 := by rw [← hW3]; simp [s2]
  have HJ1 := Lib.hid (joinT2 7 _ _ tX t1 W3 32 (x1.ext (a2.trans a3)) z3 (by decide))
  rw [s3] at HJ1
  have HA1 := Lib.hid a1
  have HX2 := Lib.hid (x1.ext a2)
  have HY2 := Lib.hid y2
  have HA2 := Lib.hid (a1.trans a2)
  have HA3 := Lib.hid a3
  subst hW3
  subst hW2
  subst hW1
  clear x1 y2 z3 a1 a2 a3 s1 s2 s3
  go_enter Tryz.func10, Tryz.ntmps10
  go_wp2_with fail
  refine HJ1.out.mono ?_
  rintro e w4 ⟨v4, rfl, h4, hE4⟩
  have HX4 := Lib.hid (HX2.out.ext (HA3.out.trans (Ext.trans (Ext.refl _) hE4)))
  have HY4 := Lib.hid (HY2.out.ext (HA3.out.trans hE4))
  have HE4 := Lib.hid ((HA2.out.trans HA3.out).trans hE4)
  have H4 := Lib.hid h4
  obtain ⟨b4, n4, c4, rfl⟩ := h4.val
  clear h4 hE4 HJ1
  go_wp2_with fail
  refine (joinT2 7 _ _ tX tY w4 _ HX4.out HY4.out (by decide)).mono ?_
  rintro e w5 ⟨v5, rfl, h5, hE5⟩
  have H5 := Lib.hid h5
  have HX5 := Lib.hid (HX4.out.ext hE5)
  have HY5 := Lib.hid (HY4.out.ext hE5)
  have HE5 := Lib.hid (HE4.out.trans hE5)
  have H45 := Lib.hid (H4.out.ext hE5)
  obtain ⟨b5, n5, c5, rfl⟩ := h5.val
  clear h5 hE5
  go_wp2_with fail
  refine (joinT2 6 _ _ tX tY w5 _ HX5.out HY5.out (by decide)).mono ?_
  rintro e w6 ⟨v6, rfl, h6, hE6⟩
  have H6 := Lib.hid (isTms_three 32 w6.heap.size rfl (H45.out.ext hE6) (H5.out.ext hE6) h6)
  have HE6 := Lib.hid (HE5.out.trans (hE6.trans (ext_al (Ext.refl w6) (Obj.cells #[.slice b4 n4 c4, .slice b5 n5 c5, v6] 32))))
  obtain ⟨b6, n6, c6, rfl⟩ := h6.val
  clear h6 hE6
  go_wp2
  go_ret
  exact ⟨_, rfl, H6.out, HE6.out⟩
end Go.Proofs.YtfcaomejbcjfgaaGreatDoor
