/- The law CodeOrder. -/
import Derived.Test.YtcmbehpilldlpaaDoorMdV
import Derived.Deep.DeepCutAuto
import Derived.Deep.RegionLaw
namespace Go.Proofs.YtcmbehpilldlpaaDoor
open Go.RowKit

theorem lex_code {s P Q u v : Int} (hs : 0 < s) (hu : 0 ≤ u) (hu' : u < s) (hv : 0 ≤ v) (hv' : v < s) : (P * s + u < Q * s + v) ↔ (P < Q ∨ (P = Q ∧ u < v)) := by
  rcases Int.lt_trichotomy P Q with h | h | h
  · have h1 : (P + 1) * s ≤ Q * s := Int.mul_le_mul_of_nonneg_right (by omega) (by omega)
    rw [Int.add_mul, Int.one_mul] at h1
    constructor
    · intro _; exact .inl h
    · intro _; omega
  · subst h
    constructor
    · intro h; exact .inr ⟨rfl, by omega⟩
    · rintro (h | ⟨_, h⟩) <;> omega
  · have h1 : (Q + 1) * s ≤ P * s := Int.mul_le_mul_of_nonneg_right (by omega) (by omega)
    rw [Int.add_mul, Int.one_mul] at h1
    constructor
    · intro _; omega
    · rintro (h2 | ⟨h2, _⟩) <;> omega

/-- The two values of a state, and how codes compare. -/
theorem two_vals {m : Md} (h2 : m.vars.length = 2) (hv : ∀ v ∈ m.vars, v.Ok) (x : Int) : ∃ p0 p1, valsL m.vars x = [p0, p1] ∧ I64 p0 ∧ I64 p1 := by
  have hl := valsL_len m.vars x
  have hs := inV_small hv (digL_in hv x)
  have e : valsL m.vars x = (digL m.vars x).1 := rfl
  rw [← e] at hs
  rw [h2] at hl
  match h : valsL m.vars x, hl with
  | [a, b], _ =>
    rw [h] at hs
    have i0 := hs a (by simp)
    have i1 := hs b (by simp)
    exact ⟨a, b, rfl, by unfold I64; omega, by unfold I64; omega⟩
theorem lex_vals {m : Md} (h2 : m.vars.length = 2) (hv : ∀ v ∈ m.vars, v.Ok) {x y p0 p1 q0 q1 : Int} (hx : valsL m.vars x = [p0, p1]) (hy : valsL m.vars y = [q0, q1]) (x0 : 0 ≤ x) (x1 : x < countL m.vars) (y0 : 0 ≤ y) (y1 : y < countL m.vars) : x < y ↔ (p0 < q0 ∨ (p0 = q0 ∧ p1 < q1)) := by
  have cx := code_valsL hv x x0 x1
  have cy := code_valsL hv y y0 y1
  have ix := digL_in hv x
  have iy := digL_in hv y
  have ex : valsL m.vars x = (digL m.vars x).1 := rfl
  have ey : valsL m.vars y = (digL m.vars y).1 := rfl
  rw [← ex, hx] at ix
  rw [← ey, hy] at iy
  rw [hx] at cx
  rw [hy] at cy
  match hm : m.vars, h2 with
  | [a, b], _ =>
    rw [hm] at cx cy ix iy hv
    simp only [codeL] at cx cy
    obtain ⟨a1, a2, b1, b2, _⟩ := ix
    obtain ⟨c1, c2, d1, d2, _⟩ := iy
    have hs := (hv b (by simp)).span
    have hsp : b.span = b.high - b.low + 1 := rfl
    have e1 : (0 * a.span + p0 - a.low) * b.span + p1 - b.low = (p0 - a.low) * b.span + (p1 - b.low) := by rw [Int.zero_mul, Int.zero_add]; omega
    have e2 : (0 * a.span + q0 - a.low) * b.span + q1 - b.low = (q0 - a.low) * b.span + (q1 - b.low) := by rw [Int.zero_mul, Int.zero_add]; omega
    rw [e1] at cx
    rw [e2] at cy
    rw [← cx, ← cy, lex_code (by omega) (by omega) (by omega) (by omega) (by omega)]
    omega

set_option maxRecDepth 100000 in
set_option maxHeartbeats 16000000 in
theorem codeOrder_walk (pv : Value) (d : Dn) (a : Int) (b : Int) (W : World) (ht : Tab W) (hpl : IsPlans W pv d.rules) (hd : DnI d) (ha : I64 a) (hb : I64 b) :
    Calls Tryd.prog 5 #[.agg (dnc d pv), .int .i64 a, .int .i64 b] W fun e w' => e = .returned (.bool true) ∧ Ext W w' := by
  have EE := ext_al (Ext.refl W) (Obj.cells (dnc d pv) 25)
  have HMO := Lib.hid (model_any pv d _ (hpl.ext EE) hd)
  have D := d.drawn
  have HEE := Lib.hid EE
  have HTB := Lib.hid (ht.ext EE)
  obtain ⟨a1, a2⟩ := ha
  obtain ⟨b1, b2⟩ := hb
  generalize d.md = m at *
  simp only [dnc] at HMO HEE HTB ⊢
  clear ht hpl hd EE
  go_enter Tryd.func5, Tryd.ntmps5
  go_wp2_with fail
  generalize W.alloc (Obj.cells #[.int .i64 d.s0, .int .i64 d.s1, .int .i64 d.l0, .int .i64 d.l1, .int .i64 d.i0, .int .i64 d.i1, pv] 25) = W0 at *
  refine HMO.out.mono ?_
  rintro e w1 ⟨vv, rv, rfl, hM, hE1⟩
  obtain ⟨av, cv, ar, cr, rfl, rfl⟩ := hM.shape D.two
  have hx := ext_al (Ext.refl w1) (Obj.cells #[.slice av 2 cv, .slice ar m.rules.length cr] 29)
  have hb := blk_new w1 (Obj.cells #[.slice av 2 cv, .slice ar m.rules.length cr] 29)
  have HM := Lib.hid (hM.ext hx)
  have HX := Lib.hid (HEE.out.trans (hE1.trans hx))
  have HT := Lib.hid (HTB.out.ext (hE1.trans hx))
  have HB := Lib.hid hb
  have m0 := blk_cell hb (i := 0) rfl
  have m1 := blk_cell hb (i := 1) rfl
  clear hM hE1 hx hb HMO HEE HTB
  have hn1 := D.n1
  have hn16 := D.n16
  have h5 := D.five
  have HD := Lib.hid D
  clear D
  go_wp2_with fail
  generalize w1.alloc (Obj.cells #[.slice av 2 cv, .slice ar m.rules.length cr] 29) = W2 at *
  refine (count_any _ _ m W2 HM.out HT.out HD.out.ok).mono ?_
  rintro e w3 ⟨rfl, hE3⟩
  have HE3 := Lib.hid hE3
  have m0 := cell_later hE3 m0
  have m1 := cell_later hE3 m1
  clear hE3
  obtain ⟨N, hN⟩ : ∃ N, countL m.vars = N := ⟨_, rfl⟩
  rw [hN] at hn1 hn16 ⊢
  have HN := Lib.hid hN
  clear hN
  go_wp2_with fail
  refine (picked_any a N _ a1 a2 (by omega) (by omega)).mono ?_
  rintro e w' ⟨rfl, rfl⟩
  have hbx := pk_bd a N (by omega)
  generalize pk a N = x at *
  go_wp2_with fail
  refine (picked_any b N _ b1 b2 (by omega) (by omega)).mono ?_
  rintro e w' ⟨rfl, rfl⟩
  have hby := pk_bd b N (by omega)
  generalize pk b N = y at *
  obtain ⟨p0, p1, hpx, ip0, ip1⟩ := two_vals HD.out.two HD.out.ok.vars x
  obtain ⟨q0, q1, hqy, iq0, iq1⟩ := two_vals HD.out.two HD.out.ok.vars y
  have HLX := Lib.hid (lex_vals HD.out.two HD.out.ok.vars hpx hqy hbx.1 (by rw [HN.out]; exact hbx.2) hby.1 (by rw [HN.out]; exact hby.2))
  have HPX := Lib.hid hpx
  have HQY := Lib.hid hqy
  clear hpx hqy
  go_wp2_with fail
  refine (values_any _ _ m x w3 (HM.out.ext HE3.out) (HT.out.ext HE3.out) HD.out.ok hbx.1 (by rw [HN.out]; exact hbx.2)).mono ?_
  rintro e w4 ⟨xv, rfl, hox, hE4⟩
  rw [HD.out.two, HPX.out] at hox
  have HE4 := Lib.hid (HE3.out.trans hE4)
  have m0 := cell_later hE4 m0
  have m1 := cell_later hE4 m1
  have HOX := Lib.hid hox
  obtain ⟨H, cx, rfl⟩ := own_shape hox (by omega)
  clear hox hE4
  go_wp2_with fail
  refine (values_any _ _ m y w4 (HM.out.ext HE4.out) (HT.out.ext HE4.out) HD.out.ok hby.1 (by rw [HN.out]; exact hby.2)).mono ?_
  rintro e w5 ⟨yv, rfl, hoy, hE5⟩
  rw [HD.out.two, HQY.out] at hoy
  have HE5 := Lib.hid (HE4.out.trans hE5)
  have hox5 := own_ext HOX.out hE5
  have k0 : w5.cell? ⟨H, 0, none⟩ = some (.int .i64 p0) := own_cellAt hox5 (i := 0) (by simp)
  have k1 : w5.cell? ⟨H, 1, none⟩ = some (.int .i64 p1) := own_cellAt hox5 (i := 1) (by simp)
  obtain ⟨G, cy, rfl⟩ := own_shape hoy (by omega)
  have l0 : w5.cell? ⟨G, 0, none⟩ = some (.int .i64 q0) := own_cellAt hoy (i := 0) (by simp)
  have l1 : w5.cell? ⟨G, 1, none⟩ = some (.int .i64 q1) := own_cellAt hoy (i := 1) (by simp)
  have HXX := Lib.hid (HX.out.trans HE5.out)
  clear hox5 hoy hE5 HOX m0 m1
  obtain ⟨bx, hbx'⟩ : ∃ b, decide (x < y) = b := ⟨_, rfl⟩
  obtain ⟨c1', hc1⟩ : ∃ b, decide (p0 < q0) = b := ⟨_, rfl⟩
  obtain ⟨c2', hc2⟩ : ∃ b, (p0 == q0) = b := ⟨_, rfl⟩
  obtain ⟨c3', hc3⟩ : ∃ b, decide (p1 < q1) = b := ⟨_, rfl⟩
  have hrel : bx = (c1' || (c2' && c3')) := by
    rw [← hbx', ← hc1, ← hc2, ← hc3, Bool.eq_iff_iff]
    simp only [decide_eq_true_eq, Bool.or_eq_true, Bool.and_eq_true, beq_iff_eq]
    exact HLX.out
  have HREL := Lib.hid hrel
  clear hrel HLX
  cases c1' <;> cases c2' <;> cases c3'
  all_goals
    obtain rfl := HREL.out
    go_upto_region 11 with fail
    refine wp_region_quiet_lit (by kernel_rfl) (by kernel_rfl) (Shut.out ?_)
    repeat (refine hq_step (fun K hK => ?_); go_simp; refine hK _ ?_; clear hK K)
    refine hq_nil ?_
    rintro _ ⟨nq, rfl⟩
    go_wp2
    go_ret
    exact ⟨rfl, below_drewN HXX.out _⟩

theorem codeOrder_law (cs : Array Value) (v1 v2 : Value) (W : World) (ht : Tab W) (h0 : Cells Tryd.prog W 25 cs.toList) (h1 : Cells Tryd.prog W 3 [v1]) (h2 : Cells Tryd.prog W 3 [v2]) :
    Calls Tryd.prog 5 #[.agg cs, v1, v2] W fun e w' => e = .returned (.bool true) ∧ Ext W w' := by
  obtain ⟨d, pv, rfl, hpl, hd⟩ := design_of h0
  obtain ⟨n1, e1, i1⟩ := h1.i64 Tryd.underlying3
  cases e1
  obtain ⟨n2, e2, i2⟩ := h2.i64 Tryd.underlying3
  cases e2
  exact codeOrder_walk pv d n1 n2 W ht hpl hd i1 i2

end Go.Proofs.YtcmbehpilldlpaaDoor
