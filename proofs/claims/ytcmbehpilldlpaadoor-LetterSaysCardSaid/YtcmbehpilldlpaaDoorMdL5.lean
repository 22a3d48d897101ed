/- The law LetterSays. -/
import Derived.Test.YtcmbehpilldlpaaDoorMdR
import Derived.Test.YtcmbehpilldlpaaDoorMdL3
import Derived.Deep.DeepCutAuto
import Derived.Deep.RegionLaw
namespace Go.Proofs.YtcmbehpilldlpaaDoor
open Go.RowKit

def tX : Tm := .n0 2 0
def tY : Tm := .n0 2 1
def t1 : Tm := .n0 1 1
def propT : List Tm := [.n2 7 0 tX t1, .n2 7 0 tX tY, .n2 6 0 tX tY]
theorem leaf_sub (k v : Int) (hk : k = 1 ∨ k = 2) (h0 : 0 ≤ v) (h1 : v ≤ 1) : Sub (.n0 k v) 2 := by
  have hv : v = 0 ∨ v = 1 := by omega
  refine ⟨?_, ?_, rfl⟩
  · simp only [Tm.ok]
    rcases hk with rfl | rfl <;> exact ⟨by omega, by omega, by decide⟩
  · intro o ho
    simp only [Tm.flat, List.mem_singleton] at ho
    subst ho
    rcases hk with rfl | rfl <;> rcases hv with rfl | rfl <;> decide
theorem cmp_sub (k : Int) (hk : k = 6 ∨ k = 7) {a b : Tm} (ha : Sub a 2) (hb : Sub b 2) (ka : mkK a.kind = false) (kb : mkK b.kind = false) : Sub (.n2 k 0 a b) 2 := by
  refine ⟨ok_n2 (by omega) ha.ok hb.ok, good_n2 (by omega) (by omega) ha.good hb.good, ?_⟩
  have ht : tkK k = false := by rcases hk with rfl | rfl <;> rfl
  simp [Tm.typed, ha.typed, hb.typed, ka, kb, ht]
theorem propT_ok : PropsOk 2 propT := by
  have hx := leaf_sub 2 0 (.inr rfl) (by omega) (by omega)
  have hy := leaf_sub 2 1 (.inr rfl) (by omega) (by omega)
  have h1 := leaf_sub 1 1 (.inl rfl) (by omega) (by omega)
  refine ⟨by decide, fun p hp => ?_⟩
  unfold propT at hp
  simp only [List.mem_cons, List.not_mem_nil, or_false] at hp
  rcases hp with rfl | rfl | rfl
  · exact ⟨cmp_sub 7 (.inr rfl) hx h1 rfl rfl, by decide, rfl⟩
  · exact ⟨cmp_sub 7 (.inr rfl) hx hy rfl rfl, by decide, rfl⟩
  · exact ⟨cmp_sub 6 (.inl rfl) hx hy rfl rfl, by decide, rfl⟩
theorem letS_props (a b : Int) (ha : -1000 ≤ a ∧ a ≤ 1000) (hb : -1000 ≤ b ∧ b ≤ 1000) : letS propT [a, b] = [decide (a < 1), decide (a < b), decide (a = b)] := by
  have o1 : ∀ x : Int, -1000 ≤ x ∧ x ≤ 1000 → over x = some x := fun x hx => by unfold over; rw [if_pos (by unfold Small; omega)]
  have ex : evalT [a, b] tX = some a := o1 a ha
  have ey : evalT [a, b] tY = some b := o1 b hb
  have e1 : evalT [a, b] t1 = some 1 := by rfl
  have l1 : opV 7 a 1 = if a < 1 then 1 else 0 := rfl
  have l2 : opV 7 a b = if a < b then 1 else 0 := rfl
  have l3 : opV 6 a b = if a = b then 1 else 0 := rfl
  unfold letS propT
  simp only [List.map_cons, List.map_nil, evalT, ex, ey, e1, Option.bind_some, l1, l2, l3]
  refine List.cons_eq_cons.2 ⟨?_, List.cons_eq_cons.2 ⟨?_, List.cons_eq_cons.2 ⟨?_, rfl⟩⟩⟩
  · by_cases h : a < 1 <;> simp [h, over, Small]
  · by_cases h : a < b <;> simp [h, over, Small]
  · by_cases h : a = b <;> simp [h, over, Small]

theorem isT_lit (w : World) (T : TypeId) (k v : Int) (n : Nat) (hn : n = w.heap.size) : IsT (w.alloc (.cells #[.int .i64 k, .int .i64 v] T)) (.slice (some ⟨n, 0, none⟩) 1 1) (.n0 k v) :=
  ⟨_, _, rfl, Row.newK w T 2 n _ rfl hn⟩
theorem isTms_three {w : World} {a b c : Value} {x y z : Tm} (T : TypeId) (n : Nat) (hn : n = w.heap.size) (ha : IsT w a x) (hb : IsT w b y) (hc : IsT w c z) : IsTms (w.alloc (.cells #[a, b, c] T)) (.slice (some ⟨n, 0, none⟩) 3 3) [x, y, z] := by
  have hE := ext_al (Ext.refl w) (Obj.cells #[a, b, c] T)
  subst hn
  refine ⟨[[a], [b], [c]], rfl, by simp, ⟨_, _, rfl, Row.new w T [a, b, c] (by simp [maxLen])⟩, fun i cs s h1 h2 => ?_⟩
  match i with
  | 0 => simp at h1 h2; subst h1; subst h2; exact ⟨a, rfl, ha.ext hE⟩
  | 1 => simp at h1 h2; subst h1; subst h2; exact ⟨b, rfl, hb.ext hE⟩
  | 2 => simp at h1 h2; subst h1; subst h2; exact ⟨c, rfl, hc.ext hE⟩
  | i + 3 => simp at h1

set_option maxRecDepth 100000 in
set_option maxHeartbeats 8000000 in
theorem kprops_any (w : World) : Calls Tryd.prog 23 #[] w fun e w' => ∃ v, e = .returned v ∧ IsTms w' v propT ∧ Ext w w' := by
  have a1 := ext_al (Ext.refl w) (Obj.cells #[.int .i64 2, .int .i64 0] 35)
  have x1 := isT_lit w 35 2 0 _ rfl
  generalize hW1 : w.alloc (Obj.cells #[.int .i64 2, .int .i64 0] 35) = W1 at *
  have s1 : W1.heap.size = w.heap.size + 1 := by rw [← hW1]; simp
  have a2 := ext_al (Ext.refl W1) (Obj.cells #[.int .i64 2, .int .i64 1] 35)
  have y2 := isT_lit W1 35 2 1 (w.heap.size + 1) s1.symm
  generalize hW2 : W1.alloc (Obj.cells #[.int .i64 2, .int .i64 1] 35) = W2 at *
  have s2 : W2.heap.size = w.heap.size + 1 + 1 := by rw [← hW2]; simp [s1]
  have a3 := ext_al (Ext.refl W2) (Obj.cells #[.int .i64 1, .int .i64 1] 35)
  have z3 := isT_lit W2 35 1 1 (w.heap.size + 1 + 1) s2.symm
  generalize hW3 : W2.alloc (Obj.cells #[.int .i64 1, .int .i64 1] 35) = W3 at *
  have s3 : W3.heap.size = w.heap.size + 1 + 1 + 1 := by rw [← hW3]; simp [s2]
  have HJ1 := Lib.hid (joinT2 7 _ _ tX t1 W3 36 (x1.ext (a2.trans a3)) z3 (by decide))
  rw [s3] at HJ1
  have HA1 := Lib.hid a1
  have HX2 := Lib.hid (x1.ext a2)
  have HY2 := Lib.hid y2
  have HA2 := Lib.hid (a1.trans a2)
  have HA3 := Lib.hid a3
  subst hW3
  subst hW2
  subst hW1
  clear x1 y2 z3 a1 a2 a3 s1 s2 s3
  go_enter Tryd.func23, Tryd.ntmps23
  go_wp2_with fail
  refine HJ1.out.mono ?_
  rintro e w4 ⟨v4, rfl, h4, hE4⟩
  have HX4 := Lib.hid (HX2.out.ext (HA3.out.trans (Ext.trans (Ext.refl _) hE4)))
  have HY4 := Lib.hid (HY2.out.ext (HA3.out.trans hE4))
  have HE4 := Lib.hid ((HA2.out.trans HA3.out).trans hE4)
  have H4 := Lib.hid h4
  obtain ⟨b4, n4, c4, rfl⟩ := h4.val
  clear h4 hE4 HJ1
  go_wp2_with fail
  refine (joinT2 7 _ _ tX tY w4 _ HX4.out HY4.out (by decide)).mono ?_
  rintro e w5 ⟨v5, rfl, h5, hE5⟩
  have H5 := Lib.hid h5
  have HX5 := Lib.hid (HX4.out.ext hE5)
  have HY5 := Lib.hid (HY4.out.ext hE5)
  have HE5 := Lib.hid (HE4.out.trans hE5)
  have H45 := Lib.hid (H4.out.ext hE5)
  obtain ⟨b5, n5, c5, rfl⟩ := h5.val
  clear h5 hE5
  go_wp2_with fail
  refine (joinT2 6 _ _ tX tY w5 _ HX5.out HY5.out (by decide)).mono ?_
  rintro e w6 ⟨v6, rfl, h6, hE6⟩
  have H6 := Lib.hid (isTms_three 36 w6.heap.size rfl (H45.out.ext hE6) (H5.out.ext hE6) h6)
  have HE6 := Lib.hid (HE5.out.trans (hE6.trans (ext_al (Ext.refl w6) (Obj.cells #[.slice b4 n4 c4, .slice b5 n5 c5, v6] 36))))
  obtain ⟨b6, n6, c6, rfl⟩ := h6.val
  clear h6 hE6
  go_wp2
  go_ret
  exact ⟨_, rfl, H6.out, HE6.out⟩

set_option maxRecDepth 100000 in
set_option maxHeartbeats 16000000 in
theorem letterSays_walk (pv : Value) (d : Dn) (c : Int) (W : World) (ht : Tab W) (hpl : IsPlans W pv d.rules) (hd : DnI d) (hc : I64 c) :
    Calls Tryd.prog 8 #[.agg (dnc d pv), .int .i64 c] W fun e w' => e = .returned (.bool true) ∧ Ext W w' := by
  have EE := ext_al (Ext.refl W) (Obj.cells (dnc d pv) 25)
  have HMO := Lib.hid (model_any pv d _ (hpl.ext EE) hd)
  have D := d.drawn
  have HEE := Lib.hid EE
  have HTB := Lib.hid (ht.ext EE)
  obtain ⟨c1, c2⟩ := hc
  generalize d.md = m at *
  simp only [dnc] at HMO HEE HTB ⊢
  clear ht hpl hd EE
  go_enter Tryd.func8, Tryd.ntmps8
  go_wp2_with fail
  generalize W.alloc (Obj.cells #[.int .i64 d.s0, .int .i64 d.s1, .int .i64 d.l0, .int .i64 d.l1, .int .i64 d.i0, .int .i64 d.i1, pv] 25) = W0 at *
  refine HMO.out.mono ?_
  rintro e w1 ⟨vv, rv, rfl, hM, hE1⟩
  obtain ⟨av, cv, ar, cr, rfl, rfl⟩ := hM.shape D.two
  have hx := ext_al (Ext.refl w1) (Obj.cells #[.slice av 2 cv, .slice ar m.rules.length cr] 29)
  have hb := blk_new w1 (Obj.cells #[.slice av 2 cv, .slice ar m.rules.length cr] 29)
  have HM := Lib.hid (hM.ext hx)
  have HX := Lib.hid (HEE.out.trans (hE1.trans hx))
  have HT := Lib.hid (HTB.out.ext (hE1.trans hx))
  have HB := Lib.hid hb
  have m0 := blk_cell hb (i := 0) rfl
  have m1 := blk_cell hb (i := 1) rfl
  clear hM hE1 hx hb HMO HEE HTB
  have hn1 := D.n1
  have hn16 := D.n16
  have h5 := D.five
  have HD := Lib.hid D
  clear D
  go_wp2_with fail
  generalize w1.alloc (Obj.cells #[.slice av 2 cv, .slice ar m.rules.length cr] 29) = W2 at *
  refine (count_any _ _ m W2 HM.out HT.out HD.out.ok).mono ?_
  rintro e w3 ⟨rfl, hE3⟩
  have HE3 := Lib.hid hE3
  have m0 := cell_later hE3 m0
  have m1 := cell_later hE3 m1
  clear hE3
  obtain ⟨N, hN⟩ : ∃ N, countL m.vars = N := ⟨_, rfl⟩
  rw [hN] at hn1 hn16 ⊢
  have HN := Lib.hid hN
  clear hN
  go_wp2_with fail
  refine (picked_any c N _ c1 c2 (by omega) (by omega)).mono ?_
  rintro e w' ⟨rfl, rfl⟩
  have hbk := pk_bd c N (by omega)
  generalize pk c N = k at *
  obtain ⟨p0, p1, hpx, ip0, ip1⟩ := two_vals HD.out.two HD.out.ok.vars k
  have hsm := inV_small HD.out.ok.vars (digL_in HD.out.ok.vars k)
  rw [show (digL m.vars k).1 = valsL m.vars k from rfl, hpx] at hsm
  have hs0 := hsm p0 (by simp)
  have hs1 := hsm p1 (by simp)
  have HPX := Lib.hid hpx
  have HLT := Lib.hid (letS_props p0 p1 hs0 hs1)
  have HLE := Lib.hid fun (pv : Value) wx (hx : Ext W2 wx) (hP : IsTms wx pv propT) => sletter_any _ _ pv m propT k wx (HM.out.ext hx) (HT.out.ext hx) HD.out.ok hP (by rw [HD.out.two]; exact propT_ok) hbk.1 (by rw [HN.out]; exact hbk.2)
  clear hsm hpx
  go_wp2_with fail
  refine (values_any _ _ m k w3 (HM.out.ext HE3.out) (HT.out.ext HE3.out) HD.out.ok hbk.1 (by rw [HN.out]; exact hbk.2)).mono ?_
  rintro e w4 ⟨xv, rfl, hox, hE4⟩
  rw [HD.out.two, HPX.out] at hox
  have HE4 := Lib.hid (HE3.out.trans hE4)
  have m0 := cell_later hE4 m0
  have m1 := cell_later hE4 m1
  have HOX := Lib.hid hox
  obtain ⟨H, cx, rfl⟩ := own_shape hox (by omega)
  clear hox hE4
  go_upto_region 7 with fail
  go_cut [11, 12] (fun s11 s12 wx => s12 = .int .i64 0 ∧ ∃ a c', s11 = .slice a 3 c' ∧ Ext w4 wx ∧ ∃ b, wx.ownsRow b 4 1 (.slice a 3 c') 3 ((letS propT (valsL m.vars k)).map .bool))
  case first =>
    go_region_law (first
      | (go_simp
         go_at_call 23
         refine (kprops_any _).mono ?_
         rintro e wn ⟨pvv, rfl, hpt, hEn⟩
         have HPT := Lib.hid hpt
         have HEN := Lib.hid (Ext.trans (Below.drew (Ext.refl w4)) hEn)
         have m0 := cell_later HEN.out m0
         have m1 := cell_later HEN.out m1
         obtain ⟨apv, cpv, rfl⟩ := EachL.val hpt
         clear hpt hEn)
      | (go_simp
         go_at_call 22
         refine (HLE.out _ _ (HE4.out.trans HEN.out) HPT.out).mono ?_
         rintro e wl ⟨lv, rfl, hol, hEl⟩
         obtain ⟨al, cl, rfl, _⟩ := hol.row
         have HOL := Lib.hid hol
         have HEL := Lib.hid (HEN.out.trans hEl)
         clear hol hEl))
    all_goals
      go_wp2_with fail
      go_meet
      exact ⟨rfl, _, _, rfl, HEL.out, _, HOL.out⟩
  case rest =>
    obtain ⟨rfl, al, cl, rfl, hE, bb, hol⟩ := hcut
    rw [HPX.out, HLT.out] at hol
    have HXX := Lib.hid (HX.out.trans (HE4.out.trans hE))
    have hox := own_ext HOX.out hE
    have k0 : wc.cell? ⟨H, 0, none⟩ = some (.int .i64 p0) := own_cellAt hox (i := 0) (by simp)
    have k1 : wc.cell? ⟨H, 1, none⟩ = some (.int .i64 p1) := own_cellAt hox (i := 1) (by simp)
    obtain ⟨G, cg, e0⟩ := own_shape hol (by omega)
    simp only [Value.slice.injEq, true_and] at e0
    obtain ⟨rfl, rfl⟩ := e0
    have l0 : wc.cell? ⟨G, 0, none⟩ = some (.bool (decide (p0 < 1))) := own_cellAt hol (i := 0) (by simp)
    have l1 : wc.cell? ⟨G, 1, none⟩ = some (.bool (decide (p0 < p1))) := own_cellAt hol (i := 1) (by simp)
    have l2 : wc.cell? ⟨G, 2, none⟩ = some (.bool (decide (p0 = p1))) := own_cellAt hol (i := 2) (by simp)
    obtain ⟨b1, hb1⟩ : ∃ b, decide (p0 < 1) = b := ⟨_, rfl⟩
    obtain ⟨b2, hb2⟩ : ∃ b, decide (p0 < p1) = b := ⟨_, rfl⟩
    obtain ⟨b3, hb3⟩ : ∃ b, decide (p0 = p1) = b := ⟨_, rfl⟩
    have hb4 : (p0 == p1) = b3 := by rw [← hb3, Bool.eq_iff_iff, beq_iff_eq, decide_eq_true_eq]
    rw [hb1] at l0
    rw [hb2] at l1
    rw [hb3] at l2
    clear hE hox hol m0 m1 HOX HLE hb3
    go_upto_region 8 with fail
    refine wp_region_quiet_lit (by kernel_rfl) (by kernel_rfl) (Shut.out ?_)
    repeat (refine hq_step (fun K hK => ?_); go_simp; refine hK _ ?_; clear hK K)
    refine hq_nil ?_
    rintro _ ⟨nq, rfl⟩
    go_wp2
    go_ret
    exact ⟨rfl, below_drewN HXX.out _⟩

theorem letterSays_law (cs : Array Value) (v1 : Value) (W : World) (ht : Tab W) (h0 : Cells Tryd.prog W 25 cs.toList) (h1 : Cells Tryd.prog W 3 [v1]) :
    Calls Tryd.prog 8 #[.agg cs, v1] W fun e w' => e = .returned (.bool true) ∧ Ext W w' := by
  obtain ⟨d, pv, rfl, hpl, hd⟩ := design_of h0
  obtain ⟨n1, e1, i1⟩ := h1.i64 Tryd.underlying3
  cases e1
  exact letterSays_walk pv d n1 W ht hpl hd i1

end Go.Proofs.YtcmbehpilldlpaaDoor
