/- The law StepStay. -/
import Derived.Test.YtopkbjfjncpjdaaDoorMdQ
import Derived.Test.YtopkbjfjncpjdaaDoorMdV
import Derived.Test.YtopkbjfjncpjdaaDoorHas
import Derived.Test.YtopkbjfjncpjdaaDoorRgT
import Derived.Deep.DeepCutAuto
import Derived.Deep.RegionLaw
import Derived.IntWalk
namespace Go.Proofs.YtopkbjfjncpjdaaDoor
open Go.RowKit

theorem EntB.and {B s : Nat} {x : TW} {P Q : World → Prop} (h : EntB B s x P) (k : EntB B s x Q) : EntB B s x fun y => P y ∧ Q y := ⟨h.ent.and k.ent, h.old, h.size⟩
theorem EntB.mono {B s : Nat} {x : TW} {P Q : World → Prop} (h : EntB B s x P) (k : ∀ y, P y → Q y) : EntB B s x Q := ⟨h.ent.mono k, h.old, h.size⟩
theorem wp_call {P : Program} {o : Oper} {a : Act} {w w' : World} {K : Act → World → Prop} {Q : Exit → Act → World → Prop} {f : FuncId} {args : Array Value} (h : (execOp a.eval o).run P w = .ok (.enter f args) w') (hc : Calls P f args w' fun e w'' => ∃ v, e = .returned v ∧ K (a.put o.dst v) w'') : o.wp P a w K Q := by
  unfold Oper.wp
  rw [h]
  exact hc.mono (by rintro e w'' ⟨v, rfl, hk⟩; exact hk)
theorem num_two (n : Int) (w : World) :
    Calls Tryd.prog 7 #[.int .i64 n] w fun e w' => e = .returned (.slice (some ⟨w.heap.size, 0, none⟩) 1 1) ∧ Row w' 2 (some ⟨w.heap.size, 0, none⟩) 1 1 (opc (1, n)) ∧ Ext w w' := by
  go_enter Tryd.func7, Tryd.ntmps7
  go_wp2
  go_ret
  exact ⟨rfl, Row.newOp _ _ _ _, ext_al (Ext.refl w) _⟩
theorem Row.three (w : World) (t : TypeId) (sz : Nat) (cs : List Value) (hs : cs.length = 3 * sz) : Row (w.alloc (.cells cs.toArray t)) sz (some ⟨w.heap.size, 0, none⟩) 3 3 cs := by
  refine ⟨by omega, Nat.le_refl _, by unfold maxLen; omega, w.heap.size, 0, (by intro h; cases h), fun _ => rfl, fun j u hu => ?_⟩
  rw [Nat.zero_add, World.cell?_alloc_at _ _ _ _ rfl]
  simpa using hu

def rlYes : Rl := ⟨.n0 11 0, []⟩
def rlNo : Rl := ⟨.n0 12 0, []⟩
def rlOver (hi : Int) : Rl := ⟨.n0 11 0, [(0, .n0 1 (hi + 1))]⟩
theorem truth_sub (k : Int) (hk : k = 11 ∨ k = 12) : Sub (.n0 k 0) 2 := by
  refine ⟨?_, ?_, rfl⟩
  · simp only [Tm.ok]
    rcases hk with rfl | rfl <;> exact ⟨by omega, by omega, by decide⟩
  · intro o ho
    simp only [Tm.flat, List.mem_singleton] at ho
    subst ho
    rcases hk with rfl | rfl <;> decide
theorem num_sub (v : Int) (h0 : -1000 ≤ v) (h1 : v ≤ 1000) : Sub (.n0 1 v) 2 := by
  refine ⟨?_, ?_, rfl⟩
  · simp only [Tm.ok]
    exact ⟨by omega, by omega, by decide⟩
  · intro o ho
    simp only [Tm.flat, List.mem_singleton] at ho
    subst ho
    unfold opE
    rw [if_neg (show ¬ okK 1 = false by decide), if_neg (by simp; omega)]
theorem stay_ok {m : Md} (h : m.Ok) (h2 : m.vars.length = 2) (h5 : m.rules.length ≤ 5) {hi : Int} (h0 : -1 ≤ hi) (h4 : hi ≤ 4) : (⟨m.vars, m.rules ++ [rlYes, rlNo, rlOver hi]⟩ : Md).Ok where
  six := h.six
  vars := h.vars
  count := h.count
  twelve := by simp; omega
  rules := fun r hr => by
    rcases List.mem_append.1 hr with hr | hr
    · exact h.rules r hr
    · have h2' : (m.vars.length : Int) = 2 := by omega
      simp only [List.mem_cons, List.not_mem_nil, or_false] at hr
      show RlPre (m.vars.length : Int) r
      rw [h2']
      rcases hr with rfl | rfl | rfl
      · exact ⟨by decide, truth_sub 11 (.inl rfl), by decide, fun s hs => by simp [rlYes] at hs⟩
      · exact ⟨by decide, truth_sub 12 (.inr rfl), by decide, fun s hs => by simp [rlNo] at hs⟩
      · refine ⟨by simp [rlOver], truth_sub 11 (.inl rfl), by simp [rlOver, Tm.size], fun s hs => ?_⟩
        simp only [rlOver, List.mem_singleton] at hs
        subst hs
        exact ⟨Int.le_refl 0, (show (0 : Int) < 2 by omega), num_sub _ (by omega) (by omega), by simp [Tm.size], (show mkK 1 = false by decide)⟩
  names := h.names
  kinds := fun r hr => by
    rcases List.mem_append.1 hr with hr | hr
    · exact h.kinds r hr
    · simp only [List.mem_cons, List.not_mem_nil, or_false] at hr
      rcases hr with rfl | rfl | rfl
      · exact ⟨by decide, by simp [rlYes]⟩
      · exact ⟨by decide, by simp [rlNo]⟩
      · exact ⟨by simp only [rlOver, Tm.kind]; decide, by simp [rlOver]⟩
theorem after_yes (m : Md) (xs : List Int) : afterV m rlYes xs = some xs := by
  simp [afterV, rlYes, evalT, setsV, over, leafV, Small]
theorem after_no (m : Md) (xs : List Int) : afterV m rlNo xs = none := by
  simp [afterV, rlNo, evalT, over, leafV, Small]
theorem after_over {m : Md} (xs : List Int) {z : Vr} {l : List Vr} (hv : m.vars = z :: l) (h0 : -1 ≤ z.high) (h4 : z.high ≤ 4) : afterV m (rlOver z.high) xs = none := by
  have h1 : (if -1000000 ≤ z.high + 1 ∧ z.high + 1 ≤ 1000000 then some (z.high + 1) else none) = some (z.high + 1) := if_pos ⟨by omega, by omega⟩
  simp [afterV, rlOver, evalT, setsV, hv, over, leafV, Small, h1]
  try omega
theorem next_stays {m : Md} (hm : ∀ v ∈ m.vars, v.Ok) {c : Int} (h0 : 0 ≤ c) (h1 : c < countL m.vars) (hr : rlYes ∈ m.rules) : c ∈ nextL m c := by
  rw [(nextL_ok m c).mem]
  have : c ∈ behindL m (valsL m.vars c) m.rules := behindL_mem.2 ⟨rlYes, hr, valsL m.vars c, after_yes m _, (code_valsL hm c h0 h1).symm⟩
  exact .inl this

theorem sets_one {y : World} {b k : Nat} {t : Tm} (h : Row y 2 (some ⟨k, 0, none⟩) 1 1 [.int .i64 0, .slice (some ⟨b, 0, none⟩) 1 1]) (ht : IsT y (.slice (some ⟨b, 0, none⟩) 1 1) t) : IsSets y (.slice (some ⟨k, 0, none⟩) 1 1) [(0, t)] := by
  refine ⟨[[.int .i64 0, .slice (some ⟨b, 0, none⟩) 1 1]], rfl, by simp, ⟨_, _, rfl, h⟩, fun i cs x h1 h2 => ?_⟩
  cases i with
  | zero => simp at h1 h2; subst h1; subst h2; exact ⟨_, rfl, ht⟩
  | succ i => simp at h1
theorem rules_three {y : World} {v : Value} {n b1 b2 b3 b4 : Nat} {hi : Int} {rs : List Rl} {css : List (List Value)} (h1 : css.length = n ∧ rs.length = n) (h2 : ∀ cs ∈ css, cs.length = 2) (h3 : ∀ (i : Nat) (cs : List Value) (r : Rl), css[i]? = some cs → rs[i]? = some r → RuleE y r cs)
    (hr : Reads y 2 v (n + 3) (css.flatten ++ [.slice (some ⟨b1, 0, none⟩) 1 1, .slice none 0 0, .slice (some ⟨b2, 0, none⟩) 1 1, .slice none 0 0, .slice (some ⟨b3, 0, none⟩) 1 1, .slice (some ⟨b4, 0, none⟩) 1 1]))
    (h : IsT y (.slice (some ⟨b1, 0, none⟩) 1 1) (Tm.n0 11 0) ∧ IsT y (.slice (some ⟨b2, 0, none⟩) 1 1) (Tm.n0 12 0) ∧ IsT y (.slice (some ⟨b3, 0, none⟩) 1 1) (Tm.n0 11 0) ∧ IsSets y (.slice (some ⟨b4, 0, none⟩) 1 1) [(0, Tm.n0 1 (hi + 1))]) : IsRules y v (rs ++ [rlYes, rlNo, rlOver hi]) := by
  refine ⟨css ++ [[.slice (some ⟨b1, 0, none⟩) 1 1, .slice none 0 0], [.slice (some ⟨b2, 0, none⟩) 1 1, .slice none 0 0], [.slice (some ⟨b3, 0, none⟩) 1 1, .slice (some ⟨b4, 0, none⟩) 1 1]], by simp [h1.1, h1.2], ?_, ?_, ?_⟩
  · intro cs hcs
    rcases List.mem_append.1 hcs with h | h
    · exact h2 cs h
    · simp only [List.mem_cons, List.not_mem_nil, or_false] at h
      rcases h with rfl | rfl | rfl <;> rfl
  · rw [show (rs ++ [rlYes, rlNo, rlOver hi]).length = n + 3 by simp [h1.2], List.flatten_append]
    simpa using hr
  · intro i cs r e1 e2
    by_cases hlt : i < n
    · rw [List.getElem?_append_left (by omega)] at e1 e2
      exact h3 i cs r e1 e2
    · rw [List.getElem?_append_right (by omega)] at e1 e2
      rw [h1.1] at e1
      rw [h1.2] at e2
      obtain ⟨k, hk⟩ : ∃ k, i - n = k := ⟨_, rfl⟩
      rw [hk] at e1 e2
      match k with
      | 0 => simp at e1 e2; subst e1; subst e2; exact ⟨_, _, rfl, h.1, EachL.nil _ _ _⟩
      | 1 => simp at e1 e2; subst e1; subst e2; exact ⟨_, _, rfl, h.2.1, EachL.nil _ _ _⟩
      | 2 => simp at e1 e2; subst e1; subst e2; exact ⟨_, _, rfl, h.2.2.1, h.2.2.2⟩
      | k + 3 => simp at e1

set_option maxRecDepth 100000 in
set_option maxHeartbeats 16000000 in
theorem stepStay_walk (pv : Value) (d : Dn) (c : Int) (W : World) (ht : Tab W) (hpl : IsPlans W pv d.rules) (hd : DnI d) (hc : I64 c) :
    Calls Tryd.prog 3 #[.agg (dnc d pv), .int .i64 c] W fun e w' => e = .returned (.bool true) ∧ Ext W w' := by
  have EE := ext_al (Ext.refl W) (Obj.cells (dnc d pv) 25)
  have HMO := Lib.hid (model_any pv d _ (hpl.ext EE) hd)
  have D := d.drawn
  obtain ⟨z, zl, hzv, hz0, hz4⟩ : ∃ z zl, d.md.vars = z :: zl ∧ -1 ≤ z.high ∧ z.high ≤ 4 := by
    refine ⟨dVar nmX d.s0 d.l0 d.i0, [dVar nmY d.s1 d.l1 d.i1], rfl, ?_, ?_⟩
    · have h1 := pk_bd d.l0 3 (by omega)
      have h2 := pk_bd d.s0 4 (by omega)
      simp only [dVar]; omega
    · have h1 := pk_bd d.l0 3 (by omega)
      have h2 := pk_bd d.s0 4 (by omega)
      simp only [dVar]; omega
  have HEE := Lib.hid EE
  have HTB := Lib.hid (ht.ext EE)
  obtain ⟨c1, c2⟩ := hc
  generalize d.md = m at *
  simp only [dnc] at HMO HEE HTB ⊢
  clear ht hpl hd EE
  have HZV := Lib.hid hzv
  clear hzv
  go_enter Tryd.func3, Tryd.ntmps3
  go_wp2_with fail
  generalize W.alloc (Obj.cells #[.int .i64 d.s0, .int .i64 d.s1, .int .i64 d.l0, .int .i64 d.l1, .int .i64 d.i0, .int .i64 d.i1, pv] 25) = W0 at *
  refine HMO.out.mono ?_
  rintro e w1 ⟨vv, rv, rfl, hM, hE1⟩
  obtain ⟨av, cv, ar, cr, rfl, rfl⟩ := hM.shape D.two
  have hx := ext_al (Ext.refl w1) (Obj.cells #[.slice av 2 cv, .slice ar m.rules.length cr] 29)
  have hb := blk_new w1 (Obj.cells #[.slice av 2 cv, .slice ar m.rules.length cr] 29)
  have HM1 := Lib.hid hM
  have HX1 := Lib.hid (HEE.out.trans hE1)
  have HT1 := Lib.hid (HTB.out.ext hE1)
  have HXX := Lib.hid hx
  have HB := Lib.hid hb
  have m0 := blk_cell hb (i := 0) rfl
  have m1 := blk_cell hb (i := 1) rfl
  clear hM hE1 hx hb HMO HEE HTB
  have hn1 := D.n1
  have hn16 := D.n16
  have h5 := D.five
  have HD := Lib.hid D
  clear D
  go_wp2_with fail
  generalize w1.alloc (Obj.cells #[.slice av 2 cv, .slice ar m.rules.length cr] 29) = W2 at *
  refine (count_any _ _ m W2 (HM1.out.ext HXX.out) (HT1.out.ext HXX.out) HD.out.ok).mono ?_
  rintro e w3 ⟨rfl, hE3⟩
  have HE13 := Lib.hid (HXX.out.trans hE3)
  have HB3 := Lib.hid (blk_ext HB.out hE3)
  have m0 := cell_later hE3 m0
  have m1 := cell_later hE3 m1
  clear hE3
  obtain ⟨N, hN⟩ : ∃ N, countL m.vars = N := ⟨_, rfl⟩
  rw [hN] at hn1 hn16 ⊢
  have HN := Lib.hid hN
  clear hN
  go_wp2_with fail
  refine (picked_any c N _ c1 c2 (by omega) (by omega)).mono ?_
  rintro e w' ⟨rfl, rfl⟩
  have hbk := pk_bd c N (by omega)
  generalize pk c N = k at *
  have HOK := Lib.hid (stay_ok HD.out.ok HD.out.two HD.out.five hz0 hz4)
  have HK1 := Lib.hid (show k < countL m.vars by rw [HN.out]; exact hbk.2)
  -- the rules' cells
  obtain ⟨css, hcl, hc2, hcr, hce⟩ := HM1.out.rules
  obtain ⟨ar', cr', e0, hrow⟩ := hcr
  simp only [Value.slice.injEq, true_and] at e0
  obtain ⟨rfl, rfl⟩ := e0
  replace hrow := hrow.ext HE13.out
  have hone : ∀ u ∈ css.flatten, u.oneCell' = true := by
    intro u hu
    obtain ⟨cs, h1, h2⟩ := List.mem_flatten.1 hu
    obtain ⟨i, hi, rfl⟩ := List.mem_iff_getElem.1 h1
    obtain ⟨g, s, e, hg, hs⟩ := hce i css[i] m.rules[i] (by simp) (by simp)
    obtain ⟨_, _, _, rfl⟩ := hg.val
    obtain ⟨_, _, rfl⟩ := EachL.val hs
    rw [e] at h2
    simp only [List.mem_cons, List.not_mem_nil, or_false] at h2
    rcases h2 with rfl | rfl <;> rfl
  obtain ⟨av', cv', e0, _, bv, ov, hav, hvc⟩ := HM1.out.vars.at
  simp only [Value.slice.injEq] at e0
  obtain ⟨rfl, -, rfl⟩ := e0
  have h2v := HD.out.two
  obtain rfl := hav (by omega)
  have dhi : w1.cell? ⟨bv, ov + 2, none⟩ = some (.int .i64 z.high) := by
    have h := (hvc 0 (by omega)).2.2.1
    have e : m.vars[0]'(by omega) = z := by simp only [HZV.out]; rfl
    rw [e] at h
    simpa using h
  replace dhi := cell_later HE13.out dhi
  obtain ⟨rs, hrs⟩ : ∃ rs, m.rules = rs := ⟨_, rfl⟩
  rw [hrs] at hcl hrow hce HB3 h5 m1 HOK ⊢
  have HRS := Lib.hid hrs
  obtain ⟨n, hn⟩ : ∃ n, rs.length = n := ⟨_, rfl⟩
  rw [hn] at hcl hrow HB3 h5 m1 ⊢
  have HCL := Lib.hid (And.intro hcl hn)
  have HC2 := Lib.hid hc2
  have HCE := Lib.hid hce
  have HNN := Lib.hid hn
  obtain ⟨hi, hhi⟩ : ∃ hi, z.high = hi := ⟨_, rfl⟩
  rw [hhi] at dhi hz0 hz4 HOK
  have HHI := Lib.hid hhi
  clear hcl hc2 hce hn hrs hhi hav hvc h2v
  go_upto_region 7 with fail
  go_cut [] (fun wx => ∃ a c, Ext w1 wx ∧ wx.heap[w1.heap.size]? = some (.cells #[.slice (some ⟨bv, ov, none⟩) 2 cv, .slice a (n + 3) c] 29 (0, 0)) ∧ IsRules wx (.slice a (n + 3) c) (rs ++ [rlYes, rlNo, rlOver hi]))
  case first =>
    refine wp_region_ops (by kernel_rfl) (X := TW) Prod.snd (fun x => Ext w3 x.2 ∧ ∀ b, b < w3.heap.size → x.1 b = 9) (fun i x x' => Nw w3.heap.size (if i = 22 then 1 else 7) x x')
      (fun i v _ x => match i with
        | 0 => v = .pointer (some ⟨w1.heap.size, 1, none⟩)
        | 1 => v = .slice ar n cr
        | 2 => ∃ a c, v = .slice a n c ∧ OwnT x.1 1 x.2 w3.heap.size 40 2 (.slice a n c) n css.flatten
        | 3 => v = .agg #[.int .i64 11, .int .i64 0]
        | 4 => ∃ b, v = .slice (some ⟨b, 0, none⟩) 1 1 ∧ EntB w3.heap.size 0 x fun y => IsT y (.slice (some ⟨b, 0, none⟩) 1 1) (Tm.n0 11 0)
        | 5 => ∃ b, v = .agg #[.slice (some ⟨b, 0, none⟩) 1 1, .slice none 0 0] ∧ EntB w3.heap.size 0 x fun y => IsT y (.slice (some ⟨b, 0, none⟩) 1 1) (Tm.n0 11 0)
        | 6 => v = .agg #[.int .i64 12, .int .i64 0]
        | 7 => ∃ b, v = .slice (some ⟨b, 0, none⟩) 1 1 ∧ EntB w3.heap.size 0 x fun y => IsT y (.slice (some ⟨b, 0, none⟩) 1 1) (Tm.n0 12 0)
        | 8 => ∃ b, v = .agg #[.slice (some ⟨b, 0, none⟩) 1 1, .slice none 0 0] ∧ EntB w3.heap.size 0 x fun y => IsT y (.slice (some ⟨b, 0, none⟩) 1 1) (Tm.n0 12 0)
        | 9 => v = .agg #[.int .i64 11, .int .i64 0]
        | 10 => ∃ b, v = .slice (some ⟨b, 0, none⟩) 1 1 ∧ EntB w3.heap.size 0 x fun y => IsT y (.slice (some ⟨b, 0, none⟩) 1 1) (Tm.n0 11 0)
        | 11 => v = .pointer (some ⟨w1.heap.size, 0, none⟩)
        | 12 => v = .slice (some ⟨bv, ov, none⟩) 2 cv
        | 13 => v = .pointer (some ⟨bv, ov, none⟩)
        | 14 => v = .pointer (some ⟨bv, ov + 2, none⟩)
        | 15 => v = .int .i64 hi
        | 16 => v = .int .i64 (hi + 1)
        | 17 => ∃ b, v = .slice (some ⟨b, 0, none⟩) 1 1 ∧ EntB w3.heap.size 0 x fun y => IsT y (.slice (some ⟨b, 0, none⟩) 1 1) (Tm.n0 1 (hi + 1))
        | 18 => ∃ b, v = .agg #[.int .i64 0, .slice (some ⟨b, 0, none⟩) 1 1] ∧ EntB w3.heap.size 0 x fun y => IsT y (.slice (some ⟨b, 0, none⟩) 1 1) (Tm.n0 1 (hi + 1))
        | 19 => ∃ b, v = .slice (some ⟨b, 0, none⟩) 1 1 ∧ EntB w3.heap.size 0 x fun y => IsSets y (.slice (some ⟨b, 0, none⟩) 1 1) [(0, Tm.n0 1 (hi + 1))]
        | 20 => ∃ b3 b4, v = .agg #[.slice (some ⟨b3, 0, none⟩) 1 1, .slice (some ⟨b4, 0, none⟩) 1 1] ∧ EntB w3.heap.size 0 x fun y => IsT y (.slice (some ⟨b3, 0, none⟩) 1 1) (Tm.n0 11 0) ∧ IsSets y (.slice (some ⟨b4, 0, none⟩) 1 1) [(0, Tm.n0 1 (hi + 1))]
        | 21 => ∃ b b1 b2 b3 b4, v = .slice (some ⟨b, 0, none⟩) 3 3 ∧ EntB w3.heap.size 0 x fun y => Row y 2 (some ⟨b, 0, none⟩) 3 3 [.slice (some ⟨b1, 0, none⟩) 1 1, .slice none 0 0, .slice (some ⟨b2, 0, none⟩) 1 1, .slice none 0 0, .slice (some ⟨b3, 0, none⟩) 1 1, .slice (some ⟨b4, 0, none⟩) 1 1] ∧ IsT y (.slice (some ⟨b1, 0, none⟩) 1 1) (Tm.n0 11 0) ∧ IsT y (.slice (some ⟨b2, 0, none⟩) 1 1) (Tm.n0 12 0) ∧ IsT y (.slice (some ⟨b3, 0, none⟩) 1 1) (Tm.n0 11 0) ∧ IsSets y (.slice (some ⟨b4, 0, none⟩) 1 1) [(0, Tm.n0 1 (hi + 1))]
        | 22 => ∃ a c b1 b2 b3 b4, v = .slice a (n + 3) c ∧ OwnT x.1 1 x.2 w3.heap.size 40 2 (.slice a (n + 3) c) (n + 3) (css.flatten ++ [.slice (some ⟨b1, 0, none⟩) 1 1, .slice none 0 0, .slice (some ⟨b2, 0, none⟩) 1 1, .slice none 0 0, .slice (some ⟨b3, 0, none⟩) 1 1, .slice (some ⟨b4, 0, none⟩) 1 1]) ∧ EntB w3.heap.size 0 x fun y => IsT y (.slice (some ⟨b1, 0, none⟩) 1 1) (Tm.n0 11 0) ∧ IsT y (.slice (some ⟨b2, 0, none⟩) 1 1) (Tm.n0 12 0) ∧ IsT y (.slice (some ⟨b3, 0, none⟩) 1 1) (Tm.n0 11 0) ∧ IsSets y (.slice (some ⟨b4, 0, none⟩) 1 1) [(0, Tm.n0 1 (hi + 1))]
        | 23 => v = .pointer (some ⟨w1.heap.size, 1, none⟩)
        | _ => ∃ a c, Ext w1 x.2 ∧ x.2.heap[w1.heap.size]? = some (.cells #[.slice (some ⟨bv, ov, none⟩) 2 cv, .slice a (n + 3) c] 29 (0, 0)) ∧ IsRules x.2 (.slice a (n + 3) c) (rs ++ [rlYes, rlNo, rlOver hi]))
      (fun j => if j = 2 then some 22 else if j = 4 then some 5 else if j = 5 then some 21 else if j = 7 then some 8 else if j = 8 then some 21 else if j = 10 then some 20 else if j = 17 then some 18 else if j = 18 then some 19 else if j = 19 then some 20 else if j = 20 then some 21 else if j = 21 then some 22 else if j = 22 then some 24 else none) (some 24) ((fun _ => 9), w3.drew) rfl (by kernel_rfl) (by kernel_rfl) ⟨Below.drew (Ext.refl w3), fun _ _ => rfl⟩ ?_ (by kernel_rfl) ?_ ?_
    · intro i j v vs x x' hi hjl hji ha hc hR hj
      match j, hjl, hji, ha, hc, hj with
      | 0, _, _, _, _, hj | 1, _, _, _, _, hj | 3, _, _, _, _, hj | 6, _, _, _, _, hj | 9, _, _, _, _, hj | 11, _, _, _, _, hj | 12, _, _, _, _, hj | 13, _, _, _, _, hj | 14, _, _, _, _, hj | 15, _, _, _, _, hj | 16, _, _, _, _, hj | 23, _, _, _, _, hj => exact hj
      | 2, _, hji, ha, hc, hj =>
        obtain ⟨q0, q1, e, h⟩ := hj
        exact ⟨q0, q1, e, Nw.own h hR (by first | omega | ((repeat' split) <;> (rename_i e; first | omega | exact (hji e.symm).elim | exact (hc (by rw [e]; rfl)).elim | exact anc_not (by subst e; kernel_rfl) ha)))⟩
      | 4, _, hji, ha, hc, hj =>
        obtain ⟨q0, e, h⟩ := hj
        exact ⟨q0, e, Nw.ent h hR (by split <;> omega)⟩
      | 5, _, hji, ha, hc, hj =>
        obtain ⟨q0, e, h⟩ := hj
        exact ⟨q0, e, Nw.ent h hR (by split <;> omega)⟩
      | 7, _, hji, ha, hc, hj =>
        obtain ⟨q0, e, h⟩ := hj
        exact ⟨q0, e, Nw.ent h hR (by split <;> omega)⟩
      | 8, _, hji, ha, hc, hj =>
        obtain ⟨q0, e, h⟩ := hj
        exact ⟨q0, e, Nw.ent h hR (by split <;> omega)⟩
      | 10, _, hji, ha, hc, hj =>
        obtain ⟨q0, e, h⟩ := hj
        exact ⟨q0, e, Nw.ent h hR (by split <;> omega)⟩
      | 17, _, hji, ha, hc, hj =>
        obtain ⟨q0, e, h⟩ := hj
        exact ⟨q0, e, Nw.ent h hR (by split <;> omega)⟩
      | 18, _, hji, ha, hc, hj =>
        obtain ⟨q0, e, h⟩ := hj
        exact ⟨q0, e, Nw.ent h hR (by split <;> omega)⟩
      | 19, _, hji, ha, hc, hj =>
        obtain ⟨q0, e, h⟩ := hj
        exact ⟨q0, e, Nw.ent h hR (by split <;> omega)⟩
      | 20, _, hji, ha, hc, hj =>
        obtain ⟨q0, q1, e, h⟩ := hj
        exact ⟨q0, q1, e, Nw.ent h hR (by split <;> omega)⟩
      | 21, _, hji, ha, hc, hj =>
        obtain ⟨q0, q1, q2, q3, q4, e, h⟩ := hj
        exact ⟨q0, q1, q2, q3, q4, e, Nw.ent h hR (by split <;> omega)⟩
      | 22, _, hji, ha, hc, hj =>
        obtain ⟨q0, q1, q2, q3, q4, q5, e, h, h'⟩ := hj
        exact ⟨q0, q1, q2, q3, q4, q5, e, Nw.own h hR (by first | omega | ((repeat' split) <;> (rename_i e; first | omega | exact (hji e.symm).elim | exact (hc (by rw [e]; rfl)).elim | exact anc_not (by subst e; kernel_rfl) ha))), Nw.ent h' hR (by first | omega | ((repeat' split) <;> (rename_i e; first | omega | exact (hji e.symm).elim | exact (hc (by rw [e]; rfl)).elim | exact anc_not (by subst e; kernel_rfl) ha)))⟩
      | 24, _, hji, ha, _, _ => exact last_anc (by kernel_rfl) hi hji ha
      | n + 25, hjl, _, _, _, _ => exact absurd hjl (by simp)
    · refine StepsL.more (fun f x A hA hS hJ K hK => ?_) ?_
      · have es : A.tmps[5]? = some (.pointer (some ⟨w1.heap.size, 0, none⟩)) := hA 5 rfl
        clear hA hJ
        exact wp_val (v := .pointer (some ⟨w1.heap.size, 1, none⟩)) (w' := x.2) (by go_simp) (hK _ x (fun _ => hS) (Nw.refl x) rfl)
      refine StepsL.more (fun f x A hA hS hJ K hK => ?_) ?_
      · have e0 : f 0 = .pointer (some ⟨w1.heap.size, 1, none⟩) := hJ 0 (by kernel_rfl) (by kernel_rfl)
        have es0 : A.tmps[39]? = some (f 0) := hA 39 rfl
        rw [e0] at es0
        have hc1 := cell_later hS.1 m1
        clear hA hJ
        exact wp_val (v := .slice ar n cr) (w' := x.2) (by go_simp) (hK _ x (fun _ => hS) (Nw.refl x) rfl)
      refine StepsL.more (fun f x A hA hS hJ K hK => ?_) ?_
      · have e1 : f 1 = .slice ar n cr := hJ 1 (by kernel_rfl) (by kernel_rfl)
        have es1 : A.tmps[40]? = some (f 1) := hA 40 rfl
        rw [e1] at es1
        have hr := hrow.ext hS.1
        clear hA hJ
        refine rg_new x.1 w3.heap.size 1 rfl Tryd.slRules rfl (ev_of es1) hr hone (by unfold maxLen; omega) (by omega) hS.1.size ?_
        intro a c w' ho hE
        exact hK _ (tagAt x.1 x.2.heap.size 1, w') (fun _ => ⟨Ext.trans hS.1 hE, fun b hb => (tagAt_lt (Nat.lt_of_lt_of_le hb hS.1.size)).trans (hS.2 b hb)⟩) (Nw.call hE 1) ⟨a, c, rfl, ho⟩
      refine StepsL.more (fun f x A hA hS hJ K hK => ?_) ?_
      · clear hA hJ
        exact wp_val (v := .agg #[.int .i64 11, .int .i64 0]) (w' := x.2) (by go_simp) (hK _ x (fun _ => hS) (Nw.refl x) rfl)
      refine StepsL.more (fun f x A hA hS hJ K hK => ?_) ?_
      · have e3 : f 3 = .agg #[.int .i64 11, .int .i64 0] := hJ 3 (by kernel_rfl) (by kernel_rfl)
        have es3 : A.tmps[42]? = some (f 3) := hA 42 rfl
        rw [e3] at es3
        clear hA hJ
        have hE := ext_al (Ext.refl x.2) (Obj.cells #[.int .i64 11, .int .i64 0] 36)
        exact wp_val (v := .slice (some ⟨x.2.heap.size, 0, none⟩) 1 1) (w' := x.2.alloc (.cells #[.int .i64 11, .int .i64 0] 36)) (by go_simp) (hK _ (tagAt x.1 x.2.heap.size 0, x.2.alloc (.cells #[.int .i64 11, .int .i64 0] 36)) (fun _ => ⟨Ext.trans hS.1 hE, fun b hb => (tagAt_lt (Nat.lt_of_lt_of_le hb hS.1.size)).trans (hS.2 b hb)⟩) (Nw.call hE 0) ⟨x.2.heap.size, rfl, (EntB.row (cs := [.int .i64 11, .int .i64 0]) hS.1.size (fun b hb => by rw [hS.2 b hb]; omega) (Row.newOp _ _ _ _)).mono fun y hy => ⟨_, _, rfl, hy⟩⟩)
      refine StepsL.more (fun f x A hA hS hJ K hK => ?_) ?_
      · have q := hJ 4 (by kernel_rfl) (by kernel_rfl)
        obtain ⟨b, h4, hb⟩ := q
        have es4 : A.tmps[43]? = some (f 4) := hA 43 rfl
        rw [h4] at es4
        clear hA hJ
        exact wp_val (v := .agg #[.slice (some ⟨b, 0, none⟩) 1 1, .slice none 0 0]) (w' := x.2) (by go_simp) (hK _ x (fun _ => hS) (Nw.refl x) ⟨b, rfl, hb⟩)
      refine StepsL.more (fun f x A hA hS hJ K hK => ?_) ?_
      · clear hA hJ
        exact wp_val (v := .agg #[.int .i64 12, .int .i64 0]) (w' := x.2) (by go_simp) (hK _ x (fun _ => hS) (Nw.refl x) rfl)
      refine StepsL.more (fun f x A hA hS hJ K hK => ?_) ?_
      · have e6 : f 6 = .agg #[.int .i64 12, .int .i64 0] := hJ 6 (by kernel_rfl) (by kernel_rfl)
        have es6 : A.tmps[45]? = some (f 6) := hA 45 rfl
        rw [e6] at es6
        clear hA hJ
        have hE := ext_al (Ext.refl x.2) (Obj.cells #[.int .i64 12, .int .i64 0] 36)
        exact wp_val (v := .slice (some ⟨x.2.heap.size, 0, none⟩) 1 1) (w' := x.2.alloc (.cells #[.int .i64 12, .int .i64 0] 36)) (by go_simp) (hK _ (tagAt x.1 x.2.heap.size 0, x.2.alloc (.cells #[.int .i64 12, .int .i64 0] 36)) (fun _ => ⟨Ext.trans hS.1 hE, fun b hb => (tagAt_lt (Nat.lt_of_lt_of_le hb hS.1.size)).trans (hS.2 b hb)⟩) (Nw.call hE 0) ⟨x.2.heap.size, rfl, (EntB.row (cs := [.int .i64 12, .int .i64 0]) hS.1.size (fun b hb => by rw [hS.2 b hb]; omega) (Row.newOp _ _ _ _)).mono fun y hy => ⟨_, _, rfl, hy⟩⟩)
      refine StepsL.more (fun f x A hA hS hJ K hK => ?_) ?_
      · have q := hJ 7 (by kernel_rfl) (by kernel_rfl)
        obtain ⟨b, h7, hb⟩ := q
        have es7 : A.tmps[46]? = some (f 7) := hA 46 rfl
        rw [h7] at es7
        clear hA hJ
        exact wp_val (v := .agg #[.slice (some ⟨b, 0, none⟩) 1 1, .slice none 0 0]) (w' := x.2) (by go_simp) (hK _ x (fun _ => hS) (Nw.refl x) ⟨b, rfl, hb⟩)
      refine StepsL.more (fun f x A hA hS hJ K hK => ?_) ?_
      · clear hA hJ
        exact wp_val (v := .agg #[.int .i64 11, .int .i64 0]) (w' := x.2) (by go_simp) (hK _ x (fun _ => hS) (Nw.refl x) rfl)
      refine StepsL.more (fun f x A hA hS hJ K hK => ?_) ?_
      · have e9 : f 9 = .agg #[.int .i64 11, .int .i64 0] := hJ 9 (by kernel_rfl) (by kernel_rfl)
        have es9 : A.tmps[48]? = some (f 9) := hA 48 rfl
        rw [e9] at es9
        clear hA hJ
        have hE := ext_al (Ext.refl x.2) (Obj.cells #[.int .i64 11, .int .i64 0] 36)
        exact wp_val (v := .slice (some ⟨x.2.heap.size, 0, none⟩) 1 1) (w' := x.2.alloc (.cells #[.int .i64 11, .int .i64 0] 36)) (by go_simp) (hK _ (tagAt x.1 x.2.heap.size 0, x.2.alloc (.cells #[.int .i64 11, .int .i64 0] 36)) (fun _ => ⟨Ext.trans hS.1 hE, fun b hb => (tagAt_lt (Nat.lt_of_lt_of_le hb hS.1.size)).trans (hS.2 b hb)⟩) (Nw.call hE 0) ⟨x.2.heap.size, rfl, (EntB.row (cs := [.int .i64 11, .int .i64 0]) hS.1.size (fun b hb => by rw [hS.2 b hb]; omega) (Row.newOp _ _ _ _)).mono fun y hy => ⟨_, _, rfl, hy⟩⟩)
      refine StepsL.more (fun f x A hA hS hJ K hK => ?_) ?_
      · have es : A.tmps[5]? = some (.pointer (some ⟨w1.heap.size, 0, none⟩)) := hA 5 rfl
        clear hA hJ
        exact wp_val (v := .pointer (some ⟨w1.heap.size, 0, none⟩)) (w' := x.2) (by go_simp) (hK _ x (fun _ => hS) (Nw.refl x) rfl)
      refine StepsL.more (fun f x A hA hS hJ K hK => ?_) ?_
      · have e11 : f 11 = .pointer (some ⟨w1.heap.size, 0, none⟩) := hJ 11 (by kernel_rfl) (by kernel_rfl)
        have es11 : A.tmps[50]? = some (f 11) := hA 50 rfl
        rw [e11] at es11
        have hc1 := cell_later hS.1 m0
        clear hA hJ
        exact wp_val (v := .slice (some ⟨bv, ov, none⟩) 2 cv) (w' := x.2) (by go_simp) (hK _ x (fun _ => hS) (Nw.refl x) rfl)
      refine StepsL.more (fun f x A hA hS hJ K hK => ?_) ?_
      · have e12 : f 12 = .slice (some ⟨bv, ov, none⟩) 2 cv := hJ 12 (by kernel_rfl) (by kernel_rfl)
        have es12 : A.tmps[51]? = some (f 12) := hA 51 rfl
        rw [e12] at es12
        clear hA hJ
        exact wp_val (v := .pointer (some ⟨bv, ov, none⟩)) (w' := x.2) (by go_simp) (hK _ x (fun _ => hS) (Nw.refl x) rfl)
      refine StepsL.more (fun f x A hA hS hJ K hK => ?_) ?_
      · have e13 : f 13 = .pointer (some ⟨bv, ov, none⟩) := hJ 13 (by kernel_rfl) (by kernel_rfl)
        have es13 : A.tmps[52]? = some (f 13) := hA 52 rfl
        rw [e13] at es13
        clear hA hJ
        exact wp_val (v := .pointer (some ⟨bv, ov + 2, none⟩)) (w' := x.2) (by go_simp) (hK _ x (fun _ => hS) (Nw.refl x) rfl)
      refine StepsL.more (fun f x A hA hS hJ K hK => ?_) ?_
      · have e14 : f 14 = .pointer (some ⟨bv, ov + 2, none⟩) := hJ 14 (by kernel_rfl) (by kernel_rfl)
        have es14 : A.tmps[53]? = some (f 14) := hA 53 rfl
        rw [e14] at es14
        have hc1 := cell_later hS.1 dhi
        clear hA hJ
        exact wp_val (v := .int .i64 hi) (w' := x.2) (by go_simp) (hK _ x (fun _ => hS) (Nw.refl x) rfl)
      refine StepsL.more (fun f x A hA hS hJ K hK => ?_) ?_
      · have e15 : f 15 = .int .i64 hi := hJ 15 (by kernel_rfl) (by kernel_rfl)
        have es15 : A.tmps[54]? = some (f 15) := hA 54 rfl
        rw [e15] at es15
        clear hA hJ
        exact wp_val (v := .int .i64 (hi + 1)) (w' := x.2) (by go_simp; exact IntWalk.i64_in (hi + 1) (by omega)) (hK _ x (fun _ => hS) (Nw.refl x) rfl)
      refine StepsL.more (fun f x A hA hS hJ K hK => ?_) ?_
      · have e16 : f 16 = .int .i64 (hi + 1) := hJ 16 (by kernel_rfl) (by kernel_rfl)
        have es16 : A.tmps[55]? = some (f 16) := hA 55 rfl
        rw [e16] at es16
        clear hA hJ
        refine wp_call (f := 7) (args := #[.int .i64 (hi + 1)]) (w' := x.2) (by go_simp) ((num_two (hi + 1) x.2).mono ?_)
        rintro e w' ⟨rfl, hb, hE⟩
        exact ⟨_, rfl, hK _ (tagAt x.1 x.2.heap.size 0, w') (fun _ => ⟨Ext.trans hS.1 hE, fun b hb => (tagAt_lt (Nat.lt_of_lt_of_le hb hS.1.size)).trans (hS.2 b hb)⟩) (Nw.call hE 0) ⟨x.2.heap.size, rfl, ⟨fun y hy h => ⟨_, _, rfl, hb.keep fun p hp _ => by injection hp with hp; subst hp; exact h _ (hb.blk (by simp [opc])) (tagAt_ge (Nat.le_refl _))⟩, fun b hb => by show tagAt x.1 x.2.heap.size 0 b ≠ 0; rw [tagAt_lt (Nat.lt_of_lt_of_le hb hS.1.size), hS.2 b hb]; omega, Nat.le_trans hS.1.size hE.size⟩⟩⟩
      refine StepsL.more (fun f x A hA hS hJ K hK => ?_) ?_
      · have q := hJ 17 (by kernel_rfl) (by kernel_rfl)
        obtain ⟨b, h17, hb⟩ := q
        have es17 : A.tmps[56]? = some (f 17) := hA 56 rfl
        rw [h17] at es17
        clear hA hJ
        exact wp_val (v := .agg #[.int .i64 0, .slice (some ⟨b, 0, none⟩) 1 1]) (w' := x.2) (by go_simp) (hK _ x (fun _ => hS) (Nw.refl x) ⟨b, rfl, hb⟩)
      refine StepsL.more (fun f x A hA hS hJ K hK => ?_) ?_
      · have q := hJ 18 (by kernel_rfl) (by kernel_rfl)
        obtain ⟨b, h18, hb⟩ := q
        have es18 : A.tmps[57]? = some (f 18) := hA 57 rfl
        rw [h18] at es18
        clear hA hJ
        have hE := ext_al (Ext.refl x.2) (Obj.cells #[.int .i64 0, .slice (some ⟨b, 0, none⟩) 1 1] 45)
        exact wp_val (v := .slice (some ⟨x.2.heap.size, 0, none⟩) 1 1) (w' := x.2.alloc (.cells #[.int .i64 0, .slice (some ⟨b, 0, none⟩) 1 1] 45)) (by go_simp) (hK _ (tagAt x.1 x.2.heap.size 0, x.2.alloc (.cells #[.int .i64 0, .slice (some ⟨b, 0, none⟩) 1 1] 45)) (fun _ => ⟨Ext.trans hS.1 hE, fun b hb => (tagAt_lt (Nat.lt_of_lt_of_le hb hS.1.size)).trans (hS.2 b hb)⟩) (Nw.call hE 0) ⟨x.2.heap.size, rfl, ((EntB.row (cs := [.int .i64 0, .slice (some ⟨b, 0, none⟩) 1 1]) hS.1.size (fun b hb => by rw [hS.2 b hb]; omega) (Row.newK _ _ 2 _ _ rfl rfl)).and (Nw.ent hb (Nw.call hE 0 (t := 7)) (by omega))).mono fun y hy => sets_one hy.1 hy.2⟩)
      refine StepsL.more (fun f x A hA hS hJ K hK => ?_) ?_
      · have q := hJ 10 (by kernel_rfl) (by kernel_rfl)
        obtain ⟨b3, h10, hb3⟩ := q
        have q := hJ 19 (by kernel_rfl) (by kernel_rfl)
        obtain ⟨b4, h19, hb4⟩ := q
        have es10 : A.tmps[49]? = some (f 10) := hA 49 rfl
        rw [h10] at es10
        have es19 : A.tmps[58]? = some (f 19) := hA 58 rfl
        rw [h19] at es19
        clear hA hJ
        exact wp_val (v := .agg #[.slice (some ⟨b3, 0, none⟩) 1 1, .slice (some ⟨b4, 0, none⟩) 1 1]) (w' := x.2) (by go_simp) (hK _ x (fun _ => hS) (Nw.refl x) ⟨b3, b4, rfl, hb3.and hb4⟩)
      refine StepsL.more (fun f x A hA hS hJ K hK => ?_) ?_
      · have q := hJ 5 (by kernel_rfl) (by kernel_rfl)
        obtain ⟨b1, h5, hb1⟩ := q
        have q := hJ 8 (by kernel_rfl) (by kernel_rfl)
        obtain ⟨b2, h8, hb2⟩ := q
        have q := hJ 20 (by kernel_rfl) (by kernel_rfl)
        obtain ⟨b3, b4, h20, hb3⟩ := q
        have es5 : A.tmps[44]? = some (f 5) := hA 44 rfl
        rw [h5] at es5
        have es8 : A.tmps[47]? = some (f 8) := hA 47 rfl
        rw [h8] at es8
        have es20 : A.tmps[59]? = some (f 20) := hA 59 rfl
        rw [h20] at es20
        clear hA hJ
        have hE := ext_al (Ext.refl x.2) (Obj.cells #[.slice (some ⟨b1, 0, none⟩) 1 1, .slice none 0 0, .slice (some ⟨b2, 0, none⟩) 1 1, .slice none 0 0, .slice (some ⟨b3, 0, none⟩) 1 1, .slice (some ⟨b4, 0, none⟩) 1 1] 40)
        exact wp_val (v := .slice (some ⟨x.2.heap.size, 0, none⟩) 3 3) (w' := x.2.alloc (.cells #[.slice (some ⟨b1, 0, none⟩) 1 1, .slice none 0 0, .slice (some ⟨b2, 0, none⟩) 1 1, .slice none 0 0, .slice (some ⟨b3, 0, none⟩) 1 1, .slice (some ⟨b4, 0, none⟩) 1 1] 40)) (by go_simp) (hK _ (tagAt x.1 x.2.heap.size 0, x.2.alloc (.cells #[.slice (some ⟨b1, 0, none⟩) 1 1, .slice none 0 0, .slice (some ⟨b2, 0, none⟩) 1 1, .slice none 0 0, .slice (some ⟨b3, 0, none⟩) 1 1, .slice (some ⟨b4, 0, none⟩) 1 1] 40)) (fun _ => ⟨Ext.trans hS.1 hE, fun b hb => (tagAt_lt (Nat.lt_of_lt_of_le hb hS.1.size)).trans (hS.2 b hb)⟩) (Nw.call hE 0) ⟨x.2.heap.size, b1, b2, b3, b4, rfl, ((EntB.row (cs := [.slice (some ⟨b1, 0, none⟩) 1 1, .slice none 0 0, .slice (some ⟨b2, 0, none⟩) 1 1, .slice none 0 0, .slice (some ⟨b3, 0, none⟩) 1 1, .slice (some ⟨b4, 0, none⟩) 1 1]) hS.1.size (fun b hb => by rw [hS.2 b hb]; omega) (Row.three _ _ 2 _ rfl)).and ((Nw.ent hb1 (Nw.call hE 0 (t := 7)) (by omega)).and ((Nw.ent hb2 (Nw.call hE 0 (t := 7)) (by omega)).and (Nw.ent hb3 (Nw.call hE 0 (t := 7)) (by omega)))))⟩)
      refine StepsL.more (fun f x A hA hS hJ K hK => ?_) ?_
      · have q := hJ 2 (by kernel_rfl) (by kernel_rfl)
        obtain ⟨a, c, h2, ho⟩ := q
        have q := hJ 21 (by kernel_rfl) (by kernel_rfl)
        obtain ⟨b, b1, b2, b3, b4, h21, hb⟩ := q
        have es2 : A.tmps[41]? = some (f 2) := hA 41 rfl
        rw [h2] at es2
        have es21 : A.tmps[60]? = some (f 21) := hA 60 rfl
        rw [h21] at es21
        clear hA hJ
        refine rg_append rfl Tryd.slRules (ev_of es2) ho (ev_of es21) hb.now.1 (by intro u hu; simp only [List.mem_cons, List.not_mem_nil, or_false] at hu; rcases hu with rfl | rfl | rfl | rfl | rfl | rfl <;> rfl) (by unfold maxLen; omega) (by omega) hS.1.size ?_
        intro a' c' w' ho' hn hw
        exact hK _ (_, w') (fun _ => ⟨Below.trans hS.1 hw, fun b hb => (tagAt_lt (Nat.lt_of_lt_of_le hb hS.1.size)).trans (hS.2 b hb)⟩) hn ⟨a', c', b1, b2, b3, b4, rfl, ho', (Nw.ent hb hn (by omega)).mono fun y hy => hy.2⟩
      refine StepsL.more (fun f x A hA hS hJ K hK => ?_) ?_
      · have es : A.tmps[5]? = some (.pointer (some ⟨w1.heap.size, 0, none⟩)) := hA 5 rfl
        clear hA hJ
        exact wp_val (v := .pointer (some ⟨w1.heap.size, 1, none⟩)) (w' := x.2) (by go_simp) (hK _ x (fun _ => hS) (Nw.refl x) rfl)
      refine StepsL.more (fun f x A hA hS hJ K hK => ?_) ?_
      · have e23 : f 23 = .pointer (some ⟨w1.heap.size, 1, none⟩) := hJ 23 (by kernel_rfl) (by kernel_rfl)
        have q := hJ 22 (by kernel_rfl) (by kernel_rfl)
        obtain ⟨a, c, b1, b2, b3, b4, h22, ho, hb⟩ := q
        have es23 : A.tmps[62]? = some (f 23) := hA 62 rfl
        rw [e23] at es23
        have es22 : A.tmps[61]? = some (f 22) := hA 61 rfl
        rw [h22] at es22
        have hb0 := blk_ext HB3.out hS.1
        have hc1 := blk_cell hb0 (i := 1) rfl
        have hf1 := blk_free hb0 1
        clear hA hJ
        have hk : Nw w3.heap.size 7 x (x.1, x.2.setCell ⟨w1.heap.size, 1, none⟩ (.slice a (n + 3) c)) := Nw.store x.1 x.2 (p := ⟨w1.heap.size, 1, none⟩) (blk_lt HB3.out) _
        have hx1 : Ext w1 (x.2.setCell ⟨w1.heap.size, 1, none⟩ (.slice a (n + 3) c)) := ext_st ((HE13.out.trans hS.1)) (p := ⟨w1.heap.size, 1, none⟩) (Nat.le_refl _) _
        refine wp_skip (w' := x.2.setCell ⟨w1.heap.size, 1, none⟩ (.slice a (n + 3) c)) (by go_simp) (hK _ (x.1, x.2.setCell ⟨w1.heap.size, 1, none⟩ (.slice a (n + 3) c)) (fun h => absurd rfl h) hk ?_)
        exact ⟨a, c, hx1, blk_set hb0 (i := 1) (.slice a (n + 3) c), rules_three HCL.out HC2.out (fun i cs r h1 h2 => (HCE.out i cs r h1 h2).ext hx1) (Nw.own ho hk (by omega)).reads (Nw.ent hb hk (by omega)).now⟩
      exact StepsL.done
    · intro f x _ hJ
      have hl := hJ 24 (by decide) rfl
      simp only [allL]
      go_simp
      go_wp2_with fail
      go_meet
      exact hl
  case rest =>
    obtain ⟨a9, c9, hE9, hb9, hr9⟩ := hcut
    have HM9 := Lib.hid (show IsMd wc (.slice (some ⟨bv, ov, none⟩) 2 cv) (.slice a9 (n + 3) c9) ⟨m.vars, rs ++ [rlYes, rlNo, rlOver hi]⟩ from ⟨HM1.out.vars.ext hE9, hr9⟩)
    have HT9 := Lib.hid (HT1.out.ext hE9)
    have HX9 := Lib.hid (HX1.out.trans hE9)
    have HB9 := Lib.hid hb9
    have HLN := Lib.hid (show (rs ++ [rlYes, rlNo, rlOver hi]).length = n + 3 by simp [HNN.out])
    have HAF := Lib.hid fun wx (hx : Ext wc wx) (r : Nat) (hr : r < (⟨m.vars, rs ++ [rlYes, rlNo, rlOver hi]⟩ : Md).rules.length) => afterE_any (.slice (some ⟨bv, ov, none⟩) 2 cv) (.slice a9 (n + 3) c9) ⟨m.vars, rs ++ [rlYes, rlNo, rlOver hi]⟩ k r wx (HM9.out.ext hx) (HT9.out.ext hx) HOK.out (by show 0 < m.vars.length; rw [HD.out.two]; omega) hbk.1 HK1.out hr
    have HA0 := Lib.hid fun wx (hx : Ext wc wx) => (show Calls Tryd.prog 8 #[.agg #[.slice (some ⟨bv, ov, none⟩) 2 cv, .slice a9 (n + 3) c9], .int .i64 k, .int .i64 (n : Int)] wx fun e w' => e = .returned (.tuple #[.int .i64 k, .int .i64 0]) ∧ Ext wx w' from by
      have h := HAF.out wx hx n (by show n < (rs ++ [rlYes, rlNo, rlOver hi]).length; rw [HLN.out]; omega)
      have e : (⟨m.vars, rs ++ [rlYes, rlNo, rlOver hi]⟩ : Md).rules[n]'(by show n < (rs ++ [rlYes, rlNo, rlOver hi]).length; rw [HLN.out]; omega) = rlYes := by
        show (rs ++ [rlYes, rlNo, rlOver hi])[n]'_ = _
        rw [List.getElem_append_right (by rw [HNN.out]; omega)]
        simp [HNN.out]
      rw [e, after_yes] at h
      rw [show aftN ⟨m.vars, rs ++ [rlYes, rlNo, rlOver hi]⟩ (some (valsL m.vars k)) = k from code_valsL HD.out.ok.vars k hbk.1 HK1.out] at h
      exact h)
    have HA1 := Lib.hid fun wx (hx : Ext wc wx) => (show Calls Tryd.prog 8 #[.agg #[.slice (some ⟨bv, ov, none⟩) 2 cv, .slice a9 (n + 3) c9], .int .i64 k, .int .i64 ((n : Int) + 1)] wx fun e w' => e = .returned (.tuple #[.int .i64 0, .int .i64 11]) ∧ Ext wx w' from by
      have h := HAF.out wx hx (n + 1) (by show n + 1 < (rs ++ [rlYes, rlNo, rlOver hi]).length; rw [HLN.out]; omega)
      have e : (⟨m.vars, rs ++ [rlYes, rlNo, rlOver hi]⟩ : Md).rules[n + 1]'(by show n + 1 < (rs ++ [rlYes, rlNo, rlOver hi]).length; rw [HLN.out]; omega) = rlNo := by
        show (rs ++ [rlYes, rlNo, rlOver hi])[n + 1]'_ = _
        rw [List.getElem_append_right (by rw [HNN.out]; omega)]
        simp [HNN.out]
      rw [e, after_no] at h
      exact h)
    have HA2 := Lib.hid fun wx (hx : Ext wc wx) => (show Calls Tryd.prog 8 #[.agg #[.slice (some ⟨bv, ov, none⟩) 2 cv, .slice a9 (n + 3) c9], .int .i64 k, .int .i64 ((n : Int) + 2)] wx fun e w' => e = .returned (.tuple #[.int .i64 0, .int .i64 11]) ∧ Ext wx w' from by
      have h := HAF.out wx hx (n + 2) (by show n + 2 < (rs ++ [rlYes, rlNo, rlOver hi]).length; rw [HLN.out]; omega)
      have e : (⟨m.vars, rs ++ [rlYes, rlNo, rlOver hi]⟩ : Md).rules[n + 2]'(by show n + 2 < (rs ++ [rlYes, rlNo, rlOver hi]).length; rw [HLN.out]; omega) = rlOver hi := by
        show (rs ++ [rlYes, rlNo, rlOver hi])[n + 2]'_ = _
        rw [List.getElem_append_right (by rw [HNN.out]; omega)]
        simp [HNN.out]
      rw [e, ← HHI.out, after_over _ (show (⟨m.vars, rs ++ [rlYes, rlNo, rlOver z.high]⟩ : Md).vars = z :: zl from HZV.out) (by rw [HHI.out]; exact hz0) (by rw [HHI.out]; exact hz4)] at h
      exact h)
    have HA3 := Lib.hid fun wx (hx : Ext wc wx) => afterE_out (.slice (some ⟨bv, ov, none⟩) 2 cv) (.slice a9 (n + 3) c9) ⟨m.vars, rs ++ [rlYes, rlNo, rlOver hi]⟩ k ((n : Int) + 3) wx (HM9.out.ext hx) (HT9.out.ext hx) HOK.out hbk.1 HK1.out (by show ((rs ++ [rlYes, rlNo, rlOver hi]).length : Int) ≤ _; rw [HLN.out]; push_cast; omega)
    have HNX := Lib.hid fun wx (hx : Ext wc wx) => nextE_any (.slice (some ⟨bv, ov, none⟩) 2 cv) (.slice a9 (n + 3) c9) ⟨m.vars, rs ++ [rlYes, rlNo, rlOver hi]⟩ k wx (HM9.out.ext hx) (HT9.out.ext hx) HOK.out (by show 0 < m.vars.length; rw [HD.out.two]; omega) hbk.1 HK1.out
    have HIN := Lib.hid (next_stays (m := ⟨m.vars, rs ++ [rlYes, rlNo, rlOver hi]⟩) HD.out.ok.vars hbk.1 HK1.out (by simp))
    generalize nextL ⟨m.vars, rs ++ [rlYes, rlNo, rlOver hi]⟩ k = L at *
    have b0 := blk_cell hb9 (i := 0) rfl
    have b1 := blk_cell hb9 (i := 1) rfl
    clear hE9 hb9 hr9 HAF m0 m1 dhi hrow hone
    have HXC := Lib.hid (Ext.refl wc)
    have hnI : (n : Int) ≤ 5 := by omega
    have hn0 : (0 : Int) ≤ (n : Int) := by omega
    go_wp2_with fail
    refine (HA0.out _ HXC.out).mono ?_
    rintro e wn ⟨rfl, hE⟩
    replace b0 := cell_later hE b0
    replace b1 := cell_later hE b1
    have HXC := Lib.hid (HXC.out.trans hE)
    clear hE
    go_wp2_with fail
    refine (HA1.out _ HXC.out).mono ?_
    rintro e wn ⟨rfl, hE⟩
    replace b0 := cell_later hE b0
    replace b1 := cell_later hE b1
    have HXC := Lib.hid (HXC.out.trans hE)
    clear hE
    go_wp2_with fail
    refine (HA2.out _ HXC.out).mono ?_
    rintro e wn ⟨rfl, hE⟩
    replace b0 := cell_later hE b0
    replace b1 := cell_later hE b1
    have HXC := Lib.hid (HXC.out.trans hE)
    clear hE
    go_wp2_with fail
    refine (HA3.out _ HXC.out).mono ?_
    rintro e wn ⟨rfl, hE⟩
    replace b0 := cell_later hE b0
    replace b1 := cell_later hE b1
    have HXC := Lib.hid (HXC.out.trans hE)
    clear hE
    go_wp2_with fail
    refine (HNX.out _ HXC.out).mono ?_
    rintro e wn ⟨vl, rfl, hol, hE⟩
    have hli : Ints wn vl L := by
      obtain ⟨al, cl, rfl, hrl⟩ := hol.row
      unfold Ints
      exact hol.reads
    obtain ⟨al, cl, rfl, _⟩ := hol.row
    have HHA := Lib.hid (has_yes _ L k wn hli HIN.out)
    have HXZ := Lib.hid (HX9.out.trans (HXC.out.trans hE))
    clear hE hol hli b0 b1
    go_wp2_with fail
    refine HHA.out.mono ?_
    rintro e w' ⟨rfl, rfl⟩
    go_wp2
    go_ret
    exact ⟨rfl, HXZ.out⟩

theorem stepStay_law (cs : Array Value) (v1 : Value) (W : World) (ht : Tab W) (h0 : Cells Tryd.prog W 25 cs.toList) (h1 : Cells Tryd.prog W 3 [v1]) :
    Calls Tryd.prog 3 #[.agg cs, v1] W fun e w' => e = .returned (.bool true) ∧ Ext W w' := by
  obtain ⟨d, pv, rfl, hpl, hd⟩ := design_of h0
  obtain ⟨n1, e1, i1⟩ := h1.i64 Tryd.underlying3
  cases e1
  exact stepStay_walk pv d n1 W ht hpl hd i1

end Go.Proofs.YtopkbjfjncpjdaaDoor
