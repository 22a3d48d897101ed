/- The law CodeOut. -/
import Derived.Test.YtcmbehpilldlpaaDoorMdV
import Derived.Deep.DeepCutAuto
import Derived.Deep.RegionLaw
namespace Go.Proofs.YtcmbehpilldlpaaDoor
open Go.RowKit

theorem ints_take {w : World} {base H n cx k : Nat} {l : List Int} (h : w.ownsRow base 3 1 (.slice (some ⟨H, 0, none⟩) n cx) n (l.map (.int .i64))) (hl : l.length = n) (hk : k ≤ n) : Ints w (.slice (some ⟨H, 0, none⟩) k cx) (l.take k) := by
  obtain ⟨a0, c0, e0, hr⟩ := h.row
  simp only [Value.slice.injEq, true_and] at e0
  obtain ⟨rfl, rfl⟩ := e0
  have h2 := hr.take k hk
  rw [Nat.mul_one, ← List.map_take] at h2
  have e : (l.take k).length = k := by rw [List.length_take]; omega
  unfold Ints
  rw [e]
  exact ⟨_, _, rfl, h2⟩

set_option maxRecDepth 100000 in
set_option maxHeartbeats 16000000 in
theorem codeOut_walk (pv : Value) (d : Dn) (a : Int) (b : Int) (W : World) (ht : Tab W) (hpl : IsPlans W pv d.rules) (hd : DnI d) (ha : I64 a) (hb : I64 b) :
    Calls Tryd.prog 7 #[.agg (dnc d pv), .int .i64 a, .int .i64 b] W fun e w' => e = .returned (.bool true) ∧ Ext W w' := by
  have EE := ext_al (Ext.refl W) (Obj.cells (dnc d pv) 25)
  have HMO := Lib.hid (model_any pv d _ (hpl.ext EE) hd)
  have D := d.drawn
  have HEE := Lib.hid EE
  have HTB := Lib.hid (ht.ext EE)
  obtain ⟨a1, a2⟩ := ha
  obtain ⟨b1, b2⟩ := hb
  generalize d.md = m at *
  simp only [dnc] at HMO HEE HTB ⊢
  clear ht hpl hd EE
  go_enter Tryd.func7, Tryd.ntmps7
  go_wp2_with fail
  generalize W.alloc (Obj.cells #[.int .i64 d.s0, .int .i64 d.s1, .int .i64 d.l0, .int .i64 d.l1, .int .i64 d.i0, .int .i64 d.i1, pv] 25) = W0 at *
  refine HMO.out.mono ?_
  rintro e w1 ⟨vv, rv, rfl, hM, hE1⟩
  obtain ⟨av, cv, ar, cr, rfl, rfl⟩ := hM.shape D.two
  have hx := ext_al (Ext.refl w1) (Obj.cells #[.slice av 2 cv, .slice ar m.rules.length cr] 29)
  have hb := blk_new w1 (Obj.cells #[.slice av 2 cv, .slice ar m.rules.length cr] 29)
  have HM := Lib.hid (hM.ext hx)
  have HX := Lib.hid (HEE.out.trans (hE1.trans hx))
  have HT := Lib.hid (HTB.out.ext (hE1.trans hx))
  have HB := Lib.hid hb
  have m0 := blk_cell hb (i := 0) rfl
  have m1 := blk_cell hb (i := 1) rfl
  clear hM hE1 hx hb HMO HEE HTB
  have hn1 := D.n1
  have hn16 := D.n16
  have h5 := D.five
  have HD := Lib.hid D
  clear D
  go_wp2_with fail
  generalize w1.alloc (Obj.cells #[.slice av 2 cv, .slice ar m.rules.length cr] 29) = W2 at *
  have hcb := codeL_bd HD.out.ok.vars (inits_in HD.out.ok.vars)
  have hvf := vals_codeL HD.out.ok.vars (inits_in HD.out.ok.vars)
  obtain ⟨A, B, hAB⟩ : ∃ A B, m.vars = [A, B] := by
    have hv2 := HD.out.two
    match hm : m.vars, hv2 with
    | [A, B], _ => exact ⟨A, B, rfl⟩
  have HAB := Lib.hid hAB
  obtain ⟨av', cv', e0, _, bv, ov, q1, q2⟩ := HM.out.vars.at
  rw [HD.out.two] at e0 q1
  simp only [Value.slice.injEq] at e0
  obtain ⟨rfl, e00, rfl⟩ := e0
  clear e00
  obtain rfl := q1 (by omega)
  have HQ := Lib.hid q2
  have HIN := Lib.hid (show valsL m.vars m.first = [A.init, B.init] from by
    rw [show m.first = codeL m.vars (m.vars.map (·.init)) 0 from rfl, hvf, hAB]; rfl)
  have HF0 := Lib.hid (show 0 ≤ m.first ∧ m.first < countL m.vars from hcb)
  clear hcb hvf hAB q1 q2
  refine (first_any _ _ m W2 HM.out HT.out HD.out.ok).mono ?_
  rintro e w3 ⟨rfl, hE3⟩
  have HE3 := Lib.hid hE3
  have m0 := cell_later hE3 m0
  have m1 := cell_later hE3 m1
  clear hE3
  obtain ⟨fi, hfi⟩ : ∃ f, m.first = f := ⟨_, rfl⟩
  rw [hfi] at HIN HF0 ⊢
  clear hfi
  go_wp2_with fail
  refine (values_any _ _ m fi w3 (HM.out.ext HE3.out) (HT.out.ext HE3.out) HD.out.ok HF0.out.1 HF0.out.2).mono ?_
  rintro e w4 ⟨xv, rfl, hox, hE4⟩
  rw [HD.out.two, HIN.out] at hox
  have HE4 := Lib.hid (HE3.out.trans hE4)
  have hb3 := blk_lt HB.out
  have hs3 := HE3.out.size
  have m0 := cell_later hE4 m0
  have m1 := cell_later hE4 m1
  obtain ⟨H, cx, rfl⟩ := own_shape hox (by omega)
  have HH := Lib.hid (hox.lt H rfl).1
  have hcx : 2 ≤ cx := by
    obtain ⟨a0, c0, e0, hr⟩ := hox.row
    simp only [Value.slice.injEq] at e0
    have := hr.le
    omega
  have hcx1 : (1 : Int) ≤ (cx : Int) := by omega
  have k0 : w4.cell? ⟨H, 0, none⟩ = some (.int .i64 A.init) := own_cellAt hox (i := 0) (by simp)
  have k1 : w4.cell? ⟨H, 1, none⟩ = some (.int .i64 B.init) := own_cellAt hox (i := 1) (by simp)
  have HOX := Lib.hid hox
  have l0 : w4.cell? ⟨bv, ov + 3, none⟩ = some (.int .i64 A.init) := by
    have h := cell_later HE4.out (HQ.out 0 (by rw [HD.out.two]; omega)).2.2.2
    simpa [HAB.out] using h
  have l1 : w4.cell? ⟨bv, ov + 4 + 3, none⟩ = some (.int .i64 B.init) := by
    have h := cell_later HE4.out (HQ.out 1 (by rw [HD.out.two]; omega)).2.2.2
    simpa [HAB.out] using h
  clear hox hE4
  go_upto_region 4 with fail
  refine wp_region_quiet_lit (by kernel_rfl) (by kernel_rfl) (Shut.out ?_)
  repeat (refine hq_step (fun K hK => ?_); go_simp; refine hK _ ?_; clear hK K)
  refine hq_nil ?_
  rintro _ ⟨nq, rfl⟩
  clear k0 k1 l0 l1
  have hx5 := below_drewN (Ext.refl w4) nq
  have m0 := cell_later hx5 m0
  have m1 := cell_later hx5 m1
  have HE5 := Lib.hid (HE4.out.trans hx5)
  have HO5 := Lib.hid (own_ext HOX.out hx5)
  clear hx5
  generalize w4.drewN nq = w5 at *
  go_wp2_with fail
  refine (picked_any a 2 _ a1 a2 (by omega) (by omega)).mono ?_
  rintro e w' ⟨rfl, rfl⟩
  have hbj := pk_bd a 2 (by omega)
  obtain ⟨j, hj⟩ : ∃ j : Nat, pk a 2 = (j : Int) := ⟨(pk a 2).toNat, by omega⟩
  rw [hj] at hbj ⊢
  clear hj
  have hj2 : j < 2 := by omega
  have hjl : j < m.vars.length := by rw [HD.out.two]; exact hj2
  have hjI : (j : Int) < 2 := by omega
  have hj0 : (0 : Int) ≤ (j : Int) := by omega
  have hok := HD.out.ok.vars m.vars[j] (by simp)
  have u1 := hok.low; have u2 := hok.high; have u3 := hok.i0; have u4 := hok.i1
  have HPK := Lib.hid fun wx => picked_any b 100 wx b1 b2 (by omega) (by omega)
  have hbq := pk_bd b 100 (by omega)
  generalize pk b 100 = q at *
  have hsz5 := HE5.out.size
  have h45 := HE4.out.size
  have HGT := Lib.hid fun (x : Int) (hx : x < m.vars[j].low ∨ m.vars[j].high < x) (ys : List Int) (hy : ys.length = 2) => (show ¬ InV m.vars (ys.set j x) from fun h => by
    have h2 := h.get j hjl (by rw [List.length_set]; omega)
    rw [List.getElem_set_self] at h2
    omega)
  have HI6 := Lib.hid (show ∀ x ∈ [A.init, B.init], I64 x from fun x hx => by
    have hA := HD.out.ok.vars A (by rw [HAB.out]; simp)
    have hB := HD.out.ok.vars B (by rw [HAB.out]; simp)
    have a1 := hA.low; have a2 := hA.high; have a3 := hA.i0; have a4 := hA.i1
    have b1 := hB.low; have b2 := hB.high; have b3 := hB.i0; have b4 := hB.i1
    simp only [List.mem_cons, List.not_mem_nil, or_false] at hx
    unfold I64
    rcases hx with rfl | rfl <;> omega)
  have HIS := Lib.hid fun (x : Int) (hx : -2000 ≤ x ∧ x ≤ 2000) (ys : List Int) (hy : ∀ y ∈ ys, I64 y) => (show ∀ y ∈ ys.set j x, I64 y from fun y hyy => by
    rcases List.mem_or_eq_of_mem_set hyy with h | rfl
    · exact hy y h
    · unfold I64; omega)
  have hHw := HH.out
  clear hok
  generalize hlo : m.vars[j].low = lo at *
  generalize hhi : m.vars[j].high = hi at *
  have HLO := Lib.hid hlo
  have HHI := Lib.hid hhi
  clear hlo hhi
  have vj : w5.cell? ⟨bv, ov + j * 4 + 2, none⟩ = some (.int .i64 hi) := cell_later (HE5.out) (by have h := (HQ.out j hjl).2.2.1; rw [HHI.out] at h; exact h)
  have hoK := HO5.out
  have frj := own_freeAt hoK j
  obtain ⟨uj, crj⟩ : ∃ u, w5.cell? ⟨H, j, none⟩ = some u := ⟨_, own_cellAt hoK (i := j) (by simp; omega)⟩
  have t1 : IntKind.i64.wrap (hi + 1) = hi + 1 := IntWalk.i64_in _ (by omega)
  have t2 : IntKind.i64.wrap (hi + 1 + q) = hi + 1 + q := IntWalk.i64_in _ (by omega)
  clear hoK
  go_upto_region 7 with fail
  go_cut [12] (fun s12 wx => s12 = .int .i64 (j : Int) ∧ wx = (w5.setCell ⟨H, j, none⟩ (.int .i64 (hi + 1 + q))).drew)
  case first =>
    go_region_law (go_simp
                   go_at_call 15
                   refine (HPK.out _).mono ?_
                   rintro e wq ⟨rfl, rfl⟩)
    all_goals
      go_wp2_with fail
      go_meet
      exact ⟨rfl, rfl⟩
  case rest =>
    obtain ⟨rfl, rfl⟩ := hcut
    have hd : Ext (w5.setCell ⟨H, j, none⟩ (.int .i64 (hi + 1 + q))) (w5.setCell ⟨H, j, none⟩ (.int .i64 (hi + 1 + q))).drew := Below.drew (Ext.refl _)
    have HO7 := Lib.hid (show (w5.setCell ⟨H, j, none⟩ (.int .i64 (hi + 1 + q))).drew.ownsRow w3.heap.size 3 1 (.slice (some ⟨H, 0, none⟩) 2 cx) 2 (([A.init, B.init].set j (hi + 1 + q)).map (.int .i64)) from by
      have h := own_ext (own_setAt HO5.out (i := j) (.int .i64 (hi + 1 + q))) hd
      rw [set_mapI] at h
      exact h)
    have hxk : Ext W2 (w5.setCell ⟨H, j, none⟩ (.int .i64 (hi + 1 + q))).drew := (ext_st HE5.out (p := ⟨H, j, none⟩) (by show W2.heap.size ≤ H; omega) _).trans hd
    have HE7 := Lib.hid hxk
    have bm := blk_ext HB.out hxk
    have m0 := blk_cell bm (i := 0) rfl
    have m1 := blk_cell bm (i := 1) rfl
    clear vj frj crj bm hd hxk
    generalize (w5.setCell ⟨H, j, none⟩ (.int .i64 (hi + 1 + q))).drew = w7 at *
    clear t1 t2
    go_wp2_with fail
    refine (code_any _ _ _ m ([A.init, B.init].set j (hi + 1 + q)) w7 (HM.out.ext HE7.out) (HT.out.ext HE7.out) HD.out.ok (by
      have h := HO7.out.reads
      unfold Ints
      rw [List.length_set]
      exact h) (HIS.out _ (by omega) _ HI6.out)).mono ?_
    rintro e w8 ⟨n, k2, rfl, hce, hE8⟩
    obtain ⟨rfl, rfl⟩ : n = 0 ∧ k2 = 9 := by
      rcases hce with ⟨h1, _⟩ | ⟨_, h1, h2⟩
      · exact absurd h1 (HGT.out _ (.inr (by omega)) _ rfl)
      · exact ⟨h1, h2⟩
    have HE8 := Lib.hid (HE7.out.trans hE8)
    have m0 := cell_later hE8 m0
    have m1 := cell_later hE8 m1
    have HO8 := Lib.hid (own_ext HO7.out hE8)
    clear hce hE8
    have vj : w8.cell? ⟨bv, ov + j * 4 + 1, none⟩ = some (.int .i64 lo) := cell_later (HE8.out) (by have h := (HQ.out j hjl).2.1; rw [HLO.out] at h; exact h)
    have hoK := HO8.out
    have frj := own_freeAt hoK j
    obtain ⟨uj, crj⟩ : ∃ u, w8.cell? ⟨H, j, none⟩ = some u := ⟨_, own_cellAt hoK (i := j) (by simp; omega)⟩
    have t1 : IntKind.i64.wrap (lo - 1) = lo - 1 := IntWalk.i64_in _ (by omega)
    have t2 : IntKind.i64.wrap (lo - 1 - q) = lo - 1 - q := IntWalk.i64_in _ (by omega)
    clear hoK
    go_upto_region 9 with fail
    go_cut [12] (fun s12 wx => s12 = .int .i64 (j : Int) ∧ wx = (w8.setCell ⟨H, j, none⟩ (.int .i64 (lo - 1 - q))).drew)
    case first =>
      go_region_law (go_simp
                     go_at_call 15
                     refine (HPK.out _).mono ?_
                     rintro e wq ⟨rfl, rfl⟩)
      all_goals
        go_wp2_with fail
        go_meet
        exact ⟨rfl, rfl⟩
    case rest =>
      obtain ⟨rfl, rfl⟩ := hcut
      have hd : Ext (w8.setCell ⟨H, j, none⟩ (.int .i64 (lo - 1 - q))) (w8.setCell ⟨H, j, none⟩ (.int .i64 (lo - 1 - q))).drew := Below.drew (Ext.refl _)
      have HO9 := Lib.hid (show (w8.setCell ⟨H, j, none⟩ (.int .i64 (lo - 1 - q))).drew.ownsRow w3.heap.size 3 1 (.slice (some ⟨H, 0, none⟩) 2 cx) 2 ((([A.init, B.init].set j (hi + 1 + q)).set j (lo - 1 - q)).map (.int .i64)) from by
        have h := own_ext (own_setAt HO8.out (i := j) (.int .i64 (lo - 1 - q))) hd
        rw [set_mapI] at h
        exact h)
      have hxk : Ext W2 (w8.setCell ⟨H, j, none⟩ (.int .i64 (lo - 1 - q))).drew := (ext_st HE8.out (p := ⟨H, j, none⟩) (by show W2.heap.size ≤ H; omega) _).trans hd
      have HE9 := Lib.hid hxk
      have bm := blk_ext HB.out hxk
      have m0 := blk_cell bm (i := 0) rfl
      have m1 := blk_cell bm (i := 1) rfl
      clear vj frj crj bm hd hxk
      generalize (w8.setCell ⟨H, j, none⟩ (.int .i64 (lo - 1 - q))).drew = w9 at *
      clear t1 t2
      go_wp2_with fail
      refine (code_any _ _ _ m (([A.init, B.init].set j (hi + 1 + q)).set j (lo - 1 - q)) w9 (HM.out.ext HE9.out) (HT.out.ext HE9.out) HD.out.ok (by
        have h := HO9.out.reads
        unfold Ints
        rw [List.length_set, List.length_set]
        exact h) (HIS.out _ (by omega) _ (HIS.out _ (by omega) _ HI6.out))).mono ?_
      rintro e w10 ⟨n, k2, rfl, hce, hE10⟩
      obtain ⟨rfl, rfl⟩ : n = 0 ∧ k2 = 9 := by
        rcases hce with ⟨h1, _⟩ | ⟨_, h1, h2⟩
        · exact absurd h1 (HGT.out _ (.inl (by omega)) _ (by rw [List.length_set]; rfl))
        · exact ⟨h1, h2⟩
      have HE10 := Lib.hid (HE9.out.trans hE10)
      have m0 := cell_later hE10 m0
      have m1 := cell_later hE10 m1
      have HO10 := Lib.hid (own_ext HO9.out hE10)
      clear hce hE10
      have HRT := Lib.hid (show Ints w10 (.slice (some ⟨H, 0, none⟩) 1 cx) ((([A.init, B.init].set j (hi + 1 + q)).set j (lo - 1 - q)).take 1) from by
        exact ints_take HO10.out (by simp) (by omega))
      have HC1 := Lib.hid fun wx (hx : Ext w10 wx) => code_any _ _ _ m _ wx (HM.out.ext (HE10.out.trans hx)) (HT.out.ext (HE10.out.trans hx)) HD.out.ok (HRT.out.ext hx) (fun x hx => HIS.out _ (by omega) _ (HIS.out _ (by omega) _ HI6.out) x (List.mem_of_mem_take hx))
      have HNI := Lib.hid (show ¬ InV m.vars ((([A.init, B.init].set j (hi + 1 + q)).set j (lo - 1 - q)).take 1) from fun h => by
        have := h.len
        rw [HD.out.two] at this
        simp at this)
      go_upto_region 11 with fail
      go_cut [17, 18] (fun s17 s18 wx => s17 = .int .i64 0 ∧ s18 = .int .i64 9 ∧ Ext w10 wx)
      case first =>
        go_region_law (go_simp
                       go_at_call 20
                       refine (HC1.out _ (Below.drew (Ext.refl _))).mono ?_
                       rintro e w11 ⟨n, k2, rfl, hce, hE11⟩
                       obtain ⟨rfl, rfl⟩ : n = 0 ∧ k2 = 9 := by
                         rcases hce with ⟨h1, _⟩ | ⟨_, h1, h2⟩
                         · exact absurd h1 HNI.out
                         · exact ⟨h1, h2⟩
                       have HE11 := Lib.hid (Ext.trans (Below.drew (Ext.refl w10)) hE11)
                       clear hce hE11)
        all_goals
          go_wp2_with fail
          go_meet
          exact ⟨rfl, rfl, HE11.out⟩
      case rest =>
        obtain ⟨rfl, rfl, hE⟩ := hcut
        have HXX := Lib.hid (HX.out.trans (HE10.out.trans hE))
        clear hE
        go_wp2
        go_ret
        exact ⟨rfl, HXX.out⟩


theorem codeOut_law (cs : Array Value) (v1 v2 : Value) (W : World) (ht : Tab W) (h0 : Cells Tryd.prog W 25 cs.toList) (h1 : Cells Tryd.prog W 3 [v1]) (h2 : Cells Tryd.prog W 3 [v2]) :
    Calls Tryd.prog 7 #[.agg cs, v1, v2] W fun e w' => e = .returned (.bool true) ∧ Ext W w' := by
  obtain ⟨d, pv, rfl, hpl, hd⟩ := design_of h0
  obtain ⟨n1, e1, i1⟩ := h1.i64 Tryd.underlying3
  cases e1
  obtain ⟨n2, e2, i2⟩ := h2.i64 Tryd.underlying3
  cases e2
  exact codeOut_walk pv d n1 n2 W ht hpl hd i1 i2

end Go.Proofs.YtcmbehpilldlpaaDoor
