/- The law StepTwice. -/
import Derived.Test.YtcmbehpilldlpaaDoorMdV
import Derived.Deep.DeepCutAuto
import Derived.Deep.RegionLaw
namespace Go.Proofs.YtcmbehpilldlpaaDoor
open Go.RowKit

theorem nextP_same {m m' : Md} (hv : m'.vars = m.vars) (hr : ∀ r, r ∈ m'.rules ↔ r ∈ m.rules) (c d : Int) : NextP m' c d ↔ NextP m c d := by
  have ha : ∀ r xs, afterV m' r xs = afterV m r xs := fun r xs => by unfold afterV; rw [hv]
  have hb : ∀ x, x ∈ behindL m' (valsL m'.vars c) m'.rules ↔ x ∈ behindL m (valsL m.vars c) m.rules := fun x => by
    rw [behindL_mem, behindL_mem, hv]
    simp only [ha, hr]
  have he : behindL m' (valsL m'.vars c) m'.rules = [] ↔ behindL m (valsL m.vars c) m.rules = [] := by
    rw [List.eq_nil_iff_forall_not_mem, List.eq_nil_iff_forall_not_mem]
    exact forall_congr' fun x => not_congr (hb x)
  unfold NextP
  rw [hb, he]
theorem nextL_same {m m' : Md} (hv : m'.vars = m.vars) (hr : ∀ r, r ∈ m'.rules ↔ r ∈ m.rules) (c : Int) : nextL m' c = nextL m c :=
  NextL.eq (m := m) (c := c) ⟨(nextL_ok m' c).up, fun d => ((nextL_ok m' c).mem d).trans (nextP_same hv hr c d)⟩ (nextL_ok m c)
theorem Md.Ok.rules' {m : Md} (h : m.Ok) {rs : List Rl} (hl : rs.length ≤ 12) (hs : ∀ r ∈ rs, r ∈ m.rules) : (⟨m.vars, rs⟩ : Md).Ok where
  six := h.six
  vars := h.vars
  count := h.count
  twelve := hl
  rules := fun r hr => h.rules r (hs r hr)
  names := h.names
  kinds := fun r hr => h.kinds r (hs r hr)

set_option maxRecDepth 100000 in
set_option maxHeartbeats 16000000 in
theorem stepTwice_walk (pv : Value) (d : Dn) (c : Int) (which : Int) (W : World) (ht : Tab W) (hpl : IsPlans W pv d.rules) (hd : DnI d) (hc : I64 c) (hwhich : I64 which) :
    Calls Tryd.prog 10 #[.agg (dnc d pv), .int .i64 c, .int .i64 which] W fun e w' => e = .returned (.bool true) ∧ Ext W w' := by
  have EE := ext_al (Ext.refl W) (Obj.cells (dnc d pv) 25)
  have HMO := Lib.hid (model_any pv d _ (hpl.ext EE) hd)
  have D := d.drawn
  have HEE := Lib.hid EE
  have HTB := Lib.hid (ht.ext EE)
  obtain ⟨c1, c2⟩ := hc
  obtain ⟨which1, which2⟩ := hwhich
  generalize d.md = m at *
  simp only [dnc] at HMO HEE HTB ⊢
  clear ht hpl hd EE
  go_enter Tryd.func10, Tryd.ntmps10
  go_wp2_with fail
  generalize W.alloc (Obj.cells #[.int .i64 d.s0, .int .i64 d.s1, .int .i64 d.l0, .int .i64 d.l1, .int .i64 d.i0, .int .i64 d.i1, pv] 25) = W0 at *
  refine HMO.out.mono ?_
  rintro e w1 ⟨vv, rv, rfl, hM, hE1⟩
  obtain ⟨av, cv, ar, cr, rfl, rfl⟩ := hM.shape D.two
  have hx := ext_al (Ext.refl w1) (Obj.cells #[.slice av 2 cv, .slice ar m.rules.length cr] 29)
  have hb := blk_new w1 (Obj.cells #[.slice av 2 cv, .slice ar m.rules.length cr] 29)
  have HM := Lib.hid (hM.ext hx)
  have HX := Lib.hid (HEE.out.trans (hE1.trans hx))
  have HT := Lib.hid (HTB.out.ext (hE1.trans hx))
  have HB := Lib.hid hb
  have m0 := blk_cell hb (i := 0) rfl
  have m1 := blk_cell hb (i := 1) rfl
  clear hM hE1 hx hb HMO HEE HTB
  have hn1 := D.n1
  have hn16 := D.n16
  have h5 := D.five
  have HD := Lib.hid D
  clear D
  go_wp2_with fail
  generalize w1.alloc (Obj.cells #[.slice av 2 cv, .slice ar m.rules.length cr] 29) = W2 at *
  refine (count_any _ _ m W2 HM.out HT.out HD.out.ok).mono ?_
  rintro e w3 ⟨rfl, hE3⟩
  have HE3 := Lib.hid hE3
  have m0 := cell_later hE3 m0
  have m1 := cell_later hE3 m1
  clear hE3
  obtain ⟨N, hN⟩ : ∃ N, countL m.vars = N := ⟨_, rfl⟩
  rw [hN] at hn1 hn16 ⊢
  have HN := Lib.hid hN
  clear hN
  go_wp2_with fail
  refine (picked_any c N _ c1 c2 (by omega) (by omega)).mono ?_
  rintro e w' ⟨rfl, rfl⟩
  have hb := pk_bd c N (by omega)
  generalize pk c N = k at *
  obtain ⟨hl1, hl2⟩ := nextL_len m k
  go_wp2_with fail
  refine (nextE_any _ _ m k w3 (HM.out.ext HE3.out) (HT.out.ext HE3.out) HD.out.ok (by rw [HD.out.two]; omega) hb.1 (by rw [HN.out]; exact hb.2)).mono ?_
  rintro e w4 ⟨v4, rfl, ho4, hE4⟩
  have HE4 := Lib.hid (HE3.out.trans hE4)
  have HM4 := Lib.hid (HM.out.ext HE4.out)
  have HT4 := Lib.hid (HT.out.ext HE4.out)
  have HX4 := Lib.hid (HX.out.trans HE4.out)
  have HB4 := Lib.hid (blk_ext HB.out HE4.out)
  have HNS := Lib.hid fun (rs' : List Rl) (hl : rs'.length ≤ 12) (hs : ∀ r, r ∈ rs' ↔ r ∈ m.rules) => (show (⟨m.vars, rs'⟩ : Md).Ok ∧ nextL ⟨m.vars, rs'⟩ k = nextL m k from ⟨HD.out.ok.rules' hl (fun r hr => (hs r).1 hr), nextL_same (m := m) (m' := ⟨m.vars, rs'⟩) rfl hs k⟩)
  obtain ⟨L, hL⟩ : ∃ L, nextL m k = L := ⟨_, rfl⟩
  rw [hL] at ho4 hl1 hl2
  have HLE := Lib.hid hL
  have hL5 : L.length ≤ 5 := by omega
  obtain ⟨aL, cL, rfl, hrL⟩ := ho4.row
  obtain ⟨bL, oL, q1, q2⟩ := ints_at' hrL
  have HQ2 := Lib.hid q2
  have haL := q1 hl1
  subst haL
  obtain ⟨ar', cr', e0, _, br, or, p1, p2⟩ := HM4.out.rules.at
  simp only [Value.slice.injEq, true_and] at e0
  obtain ⟨rfl, rfl⟩ := e0
  have HP1 := Lib.hid p1
  have HP2 := Lib.hid p2
  have hmb : w1.heap.size < w4.heap.size := blk_lt HB4.out
  clear ho4 hE4 hrL q1 q2 m0 m1 hL hl2 p1 p2 HM HT HX HB
  obtain ⟨n, hn⟩ : ∃ n, m.rules.length = n := ⟨_, rfl⟩
  rw [hn] at h5 HP1 HB4 ⊢
  obtain ⟨rs, hrs⟩ : ∃ rs, m.rules = rs := ⟨_, rfl⟩
  rw [hrs] at hn HP2 HNS
  have HRN := Lib.hid hn
  have HP3 := Lib.hid fun (i : Nat) (hi : i < rs.length) => HP2.out i hi
  clear hrs hn HP2
  have hxx := ext_al (Ext.refl w4) (Obj.cells #[.slice none 0 0, .slice none 0 0] 29)
  have m0 : (w4.alloc (Obj.cells #[.slice none 0 0, .slice none 0 0] 29)).cell? ⟨w1.heap.size, 0, none⟩ = some (.slice av 2 cv) := blk_cell (blk_ext HB4.out hxx) rfl
  have x1 := blk_new w4 (Obj.cells #[.slice av 2 cv, .slice none 0 0] 29)
  have hx5 := ext_al (Ext.refl w4) (Obj.cells #[.slice av 2 cv, .slice none 0 0] 29)
  have HX5 := Lib.hid hx5
  have HXB := Lib.hid x1
  have m1 := blk_cell (blk_ext HB4.out hx5) (i := 1) rfl
  clear hxx x1 hx5
  go_upto_region 9 with fail
  generalize w4.alloc (Obj.cells #[.slice av 2 cv, .slice none 0 0] 29) = W5 at *
  clear m0
  go_wp2_with fail
  have HO5 := Lib.hid (show W5.ownsRow (w4.heap.size + 1) 42 2 (.slice none 0 0) 0 [] from World.ownsRow_nil _ _ _ _)
  go_loopg [14] n (fun kk s wr => ∃ (i : Int) (a : Option Addr) (cc : Nat) (css : List (List Value)), i + 1 = (kk : Int) ∧ kk ≤ n ∧ s = .int .i64 i ∧ css.length = n - kk ∧ (∀ cs ∈ css, cs.length = 2) ∧
    (∀ (j : Nat) (cs : List Value) (r : Rl), css[j]? = some cs → rs.reverse[j]? = some r → RuleE w4 r cs) ∧ Ext w4 wr ∧ wr.heap[w4.heap.size]? = some (.cells #[.slice av 2 cv, .slice a css.length cc] 29 (0, 0)) ∧
    wr.ownsRow (w4.heap.size + 1) 42 2 (.slice a css.length cc) css.length css.flatten)
  case atStart => exact ⟨(n : Int) - 1, none, 0, [], by omega, Nat.le_refl _, rfl, by simp, by simp, by simp, HX5.out, HXB.out, HO5.out⟩
  case round =>
    obtain ⟨i, a, cc, css, hik, hkn, rfl, hcl, hc2, hcE, hE, hXb, hO⟩ := hrel
    clear HX5 HXB HO5 m1
    have HIK := Lib.hid hik
    have HCL := Lib.hid hcl
    have HC2 := Lib.hid hc2
    have HCE := Lib.hid hcE
    have HXE := Lib.hid hE
    have HXB := Lib.hid hXb
    have HO := Lib.hid hO
    have hwr := hE.size
    have hxl := blk_lt hXb
    by_cases hi : 0 ≤ i
    · obtain ⟨q, rfl⟩ : ∃ q : Nat, i = (q : Int) := ⟨i.toNat, by omega⟩
      obtain rfl : gk = q + 1 := by omega
      have hqn : q < rs.length := by have := HRN.out; omega
      obtain rfl := HP1.out (by omega)
      obtain ⟨g, s, e1, e2, hg, hs⟩ := HP3.out q hqn
      have c0 := cell_later hE e1
      have c1 := cell_later hE e2
      have hRE : RuleE w4 rs[q] [g, s] := ⟨g, s, rfl, hg, hs⟩
      have HREV := Lib.hid (show rs.reverse[css.length]? = some rs[q] from by
        have hl := HRN.out
        have hlt : css.length < rs.reverse.length := by rw [List.length_reverse]; omega
        rw [List.getElem?_eq_getElem hlt, List.getElem_reverse]
        congr 2
        omega)
      have HRE := Lib.hid hRE
      obtain ⟨ag, ng, cg, rfl⟩ := hg.val
      obtain ⟨asl, csl, rfl⟩ := EachL.val hs
      generalize rs[q].sets.length = nss at *
      have x1 := blk_cell hXb (i := 1) rfl
      have m1 := blk_cell (blk_ext HB4.out hE) (i := 1) rfl
      have HX6 := Lib.hid fun (o : Obj) => blk_ext hXb (Below.drew (ext_al (Ext.refl wr) o))
      have HO6 := Lib.hid fun (o : Obj) => own_ext hO (Below.drew (ext_al (Ext.refl wr) o))
      have HE6 := Lib.hid fun (o : Obj) => Ext.trans hE (Below.drew (ext_al (Ext.refl wr) o))
      have x1a : (wr.alloc (Obj.cells #[.slice ag ng cg, .slice asl nss csl] 42)).cell? ⟨w4.heap.size, 1, none⟩ = some (.slice a css.length cc) := blk_cell (blk_ext hXb (ext_al (Ext.refl wr) _)) rfl
      have hc5 : css.length ≤ 5 := by omega
      have hqI : (q : Int) < (n : Int) := by omega
      have hq0 : (0 : Int) ≤ (q : Int) := by omega
      clear hik hcl hc2 hcE hE hXb hO hg hs e1 e2 hRE
      obtain ⟨nc, hnc⟩ : ∃ nc, css.length = nc := ⟨_, rfl⟩
      rw [hnc] at HCL HREV HXB HO x1 HX6 HO6 x1a hc5
      have HNC := Lib.hid hnc
      clear hnc
      go_upto_region 12 with fail
      go_region_law (refine step_append rfl rfl Tryd.slRules (w4.heap.size + 1) (by rfl) (HO6.out _) (by rfl) ((Row.newK _ _ 2 _ _ rfl rfl).ext (Below.drew (Ext.refl _))) (by intro u hu; simp only [List.mem_cons, List.not_mem_nil, or_false] at hu; rcases hu with rfl | rfl <;> rfl) (by unfold maxLen; omega) (by omega) (by simp; omega) ?_
                     intro v6 w6 hown6 hg6 hb6 _
                     obtain ⟨a6, c6, rfl, _⟩ := hown6.row
                     have hx6 := blk_grown (HX6.out _) hg6 (fun e => by have := ((HO6.out (Obj.cells #[] 0)).lt _ e.symm).1; omega)
                     have x16 := blk_cell hx6 (i := 1) rfl
                     have fx16 := blk_free hx6 1
                     have HXX6 := Lib.hid hx6
                     have HEE6 := Lib.hid (show Ext w4 w6 from Below.grown (HE6.out _) hg6 (HE6.out _).size (fun b hb => by have := ((HO6.out (Obj.cells #[] 0)).lt b hb).1; omega))
                     have HOO6 := Lib.hid hown6
                     clear hx6 hown6 hg6 hb6)
      all_goals
        have HXX7 := Lib.hid (blk_set HXX6.out (i := 1) (.slice a6 (nc + 1) c6))
        have HEE7 := Lib.hid (ext_st HEE6.out (p := ⟨w4.heap.size, 1, none⟩) (Nat.le_refl _) (.slice a6 (nc + 1) c6))
        have HOO7 := Lib.hid (own_setCell HOO6.out (p := ⟨w4.heap.size, 1, none⟩) (.slice a6 (nc + 1) c6) (fun e => by have := (HOO6.out.lt _ e).1; simp at this; omega))
        clear x1 m1 x1a c0 c1 HX6 HO6 HE6 x16 fx16 HXX6 HEE6 HOO6 HXE HXB HO
        generalize w6.setCell ⟨w4.heap.size, 1, none⟩ (.slice a6 (nc + 1) c6) = w7 at *
        go_wp2_with fail
        go_roundg q
        case measure => omega
        case rel => exact ⟨(q : Int) - 1, a6, c6, css ++ [[.slice ag ng cg, .slice asl nss csl]], by omega, by omega, rfl, by
            rw [List.length_append, HNC.out]
            have := HCL.out
            simp; omega, by
            intro cs hcs
            rcases List.mem_append.1 hcs with h | h
            · exact HC2.out cs h
            · simp at h; subst h; rfl, by
            intro j cs r h1 h2
            by_cases hj : j < css.length
            · rw [List.getElem?_append_left hj] at h1
              exact HCE.out j cs r h1 h2
            · rw [List.getElem?_append_right (by omega)] at h1
              have e0 : j = css.length := by have := (List.getElem?_eq_some_iff.1 h1).1; simp at this; omega
              subst e0
              rw [HNC.out, HREV.out] at h2
              simp at h1 h2
              subst h1; subst h2
              exact HRE.out, HEE7.out, by rw [List.length_append, HNC.out]; exact HXX7.out, by
            rw [List.length_append, HNC.out, List.flatten_append]
            exact HOO7.out⟩
    · have hgk : gk = 0 := by omega
      have hcn : css.length = n := by omega
      have hiN : i < 0 := by omega
      subst hgk
      have x0 := blk_cell hXb (i := 0) rfl
      have x1 := blk_cell hXb (i := 1) rfl
      have m1 := blk_cell (blk_ext HB4.out hE) (i := 1) rfl
      clear hik hkn hcl hc2 hcE hE hXb hO
      rw [hcn] at HXB HO x1
      have HCN := Lib.hid hcn
      clear hcn
      by_cases hn0 : 0 < n
      · have hn0I : (0 : Int) < (n : Int) := by omega
        have HPK := Lib.hid fun wx => picked_any which n wx which1 which2 (by omega) (by omega)
        have hbq := pk_bd which n (by omega)
        obtain ⟨q, hq⟩ : ∃ q : Nat, pk which n = (q : Int) := ⟨(pk which n).toNat, by omega⟩
        rw [hq] at HPK hbq
        clear hq
        have hqn : q < rs.length := by have := HRN.out; omega
        obtain rfl := HP1.out hn0
        obtain ⟨g, s, e1, e2, hg, hs⟩ := HP3.out q hqn
        have c0 := cell_later HXE.out e1
        have c1 := cell_later HXE.out e2
        have HRE := Lib.hid (show RuleE w4 rs[q] [g, s] from ⟨g, s, rfl, hg, hs⟩)
        obtain ⟨ag, ng, cg, rfl⟩ := hg.val
        obtain ⟨asl, csl, rfl⟩ := EachL.val hs
        generalize rs[q].sets.length = nss at *
        have HX6 := Lib.hid fun (o : Obj) => blk_ext HXB.out (Below.drew (ext_al (Ext.refl wr) o))
        have HO6 := Lib.hid fun (o : Obj) => own_ext HO.out (Below.drew (ext_al (Ext.refl wr) o))
        have HE6 := Lib.hid fun (o : Obj) => Ext.trans HXE.out (Below.drew (ext_al (Ext.refl wr) o))
        have x1a : (wr.alloc (Obj.cells #[.slice ag ng cg, .slice asl nss csl] 42)).cell? ⟨w4.heap.size, 1, none⟩ = some (.slice a n cc) := blk_cell (blk_ext HXB.out (ext_al (Ext.refl wr) _)) rfl
        have hqI : (q : Int) < (n : Int) := by omega
        have hq0 : (0 : Int) ≤ (q : Int) := by omega
        clear hg hs e1 e2
        go_upto_region 14 with fail
        go_cut [] (fun wx => ∃ a6 c6, Ext w4 wx ∧ wx.heap[w4.heap.size]? = some (.cells #[.slice av 2 cv, .slice a6 (n + 1) c6] 29 (0, 0)) ∧ wx.ownsRow (w4.heap.size + 1) 42 2 (.slice a6 (n + 1) c6) (n + 1) (css.flatten ++ [.slice ag ng cg, .slice asl nss csl]))
        case first =>
          go_region_law (first
            | (refine step_append rfl rfl Tryd.slRules (w4.heap.size + 1) (by rfl) (HO6.out _) (by rfl) ((Row.newK _ _ 2 _ _ rfl rfl).ext (Below.drew (Ext.refl _))) (by intro u hu; simp only [List.mem_cons, List.not_mem_nil, or_false] at hu; rcases hu with rfl | rfl <;> rfl) (by unfold maxLen; omega) (by omega) (by simp; omega) ?_
               intro v6 w6 hown6 hg6 hb6 _
               obtain ⟨a6, c6, rfl, _⟩ := hown6.row
               have hx6 := blk_grown (HX6.out _) hg6 (fun e => by have := ((HO6.out (Obj.cells #[] 0)).lt _ e.symm).1; omega)
               have x16 := blk_cell hx6 (i := 1) rfl
               have fx16 := blk_free hx6 1
               have HXX6 := Lib.hid hx6
               have HEE6 := Lib.hid (show Ext w4 w6 from Below.grown (HE6.out _) hg6 (HE6.out _).size (fun b hb => by have := ((HO6.out (Obj.cells #[] 0)).lt b hb).1; omega))
               have HOO6 := Lib.hid hown6
               clear hx6 hown6 hg6 hb6)
            | (go_simp
               go_at_call 15
               refine (HPK.out _).mono ?_
               rintro e wq ⟨rfl, rfl⟩))
          all_goals
            go_wp2_with fail
            go_meet
            exact ⟨a6, c6, ext_st HEE6.out (p := ⟨w4.heap.size, 1, none⟩) (Nat.le_refl _) _, blk_set HXX6.out (i := 1) _, own_setCell HOO6.out (p := ⟨w4.heap.size, 1, none⟩) _ (fun e => by have := (HOO6.out.lt _ e).1; simp at this; omega)⟩
        case rest =>
          obtain ⟨a6, c6, hE, hXb, hO⟩ := hcut
          have HIR := Lib.hid (show IsRules wc (.slice a6 (n + 1) c6) (rs.reverse ++ [rs[q]]) from by
            have hl : (rs.reverse ++ [rs[q]]).length = n + 1 := by have := HRN.out; simp; omega
            refine ⟨css ++ [[.slice ag ng cg, .slice asl nss csl]], by rw [hl]; have := HCN.out; simp; omega, ?_, by rw [hl, List.flatten_append]; exact hO.reads, ?_⟩
            · intro cs hcs
              rcases List.mem_append.1 hcs with h | h
              · exact HC2.out cs h
              · simp at h; subst h; rfl
            · intro j cs r h1 h2
              by_cases hj : j < css.length
              · rw [List.getElem?_append_left hj] at h1
                rw [List.getElem?_append_left (by have := HRN.out; have := HCN.out; simp; omega)] at h2
                exact (HCE.out j cs r h1 h2).ext hE
              · rw [List.getElem?_append_right (by omega)] at h1
                have e0 : j = css.length := by have := (List.getElem?_eq_some_iff.1 h1).1; simp at this; omega
                subst e0
                rw [List.getElem?_append_right (by have := HRN.out; have := HCN.out; simp; omega)] at h2
                have e3 : css.length - rs.reverse.length = 0 := by have := HRN.out; have := HCN.out; simp; omega
                rw [e3] at h2
                simp at h1 h2
                subst h1; subst h2
                exact HRE.out.ext hE)
          have HOKX := Lib.hid (HNS.out (rs.reverse ++ [rs[q]]) (by have := HRN.out; simp; omega) (fun r => by
            simp only [List.mem_append, List.mem_reverse, List.mem_singleton]
            constructor
            · rintro (h | rfl)
              · exact h
              · simp
            · exact .inl))
          have x0 := blk_cell hXb (i := 0) rfl
          have x1 := blk_cell hXb (i := 1) rfl
          have HE9 := Lib.hid hE
          clear hE hXb hO m1 c0 c1 x1a HPK HX6 HO6 HE6
          generalize rs.reverse ++ [rs[q]] = RX at *
          have HMX := Lib.hid (show IsMd wc (.slice av 2 cv) (.slice a6 (n + 1) c6) ⟨m.vars, RX⟩ from ⟨HM4.out.vars.ext HE9.out, HIR.out⟩)
          have HNXX := Lib.hid (nextE_any _ _ ⟨m.vars, RX⟩ k wc HMX.out (HT4.out.ext HE9.out) HOKX.out.1 (by show 0 < m.vars.length; rw [HD.out.two]; omega) hb.1 (by show k < countL m.vars; rw [HN.out]; exact hb.2))
          rw [HOKX.out.2, HLE.out] at HNXX
          go_wp2_with fail
          refine HNXX.out.mono ?_
          rintro e w8 ⟨v8, rfl, ho8, hE8⟩
          obtain ⟨a8, c8, rfl, hr8⟩ := ho8.row
          obtain ⟨b8, o8, q81, q82⟩ := ints_at' hr8
          have ha8 := q81 hl1
          subst ha8
          have HQ8 := Lib.hid q82
          have HE8 := Lib.hid (HE9.out.trans hE8)
          have hl0 : ((L.length : Int) == 0) = false := by rw [beq_eq_false_iff_ne]; omega
          have hl3 : ((L.length : Int) != (L.length : Int)) = false := by rw [bne_eq_false_iff_eq]
          clear ho8 hE8 hr8 q81 q82 HNXX HMX x0 x1
          go_wp2_with fail
          clear hl0 hl3
          go_loopg [17] L.length (fun kk x wz => ∃ i : Nat, kk + i = L.length ∧ x = .int .i64 (i : Int) ∧ Ext w8 wz)
          case atStart => exact ⟨0, by omega, by go_num, Ext.refl _⟩
          case round =>
            obtain ⟨i2, hki2, rfl, hE9⟩ := hrel
            have HKI2 := Lib.hid hki2
            have HX9 := Lib.hid hE9
            by_cases hi2 : i2 < L.length
            · have cx := cell_later (HE8.out.trans hE9) (HQ2.out i2 hi2)
              have cy := cell_later hE9 (HQ8.out i2 hi2)
              have hiI : (i2 : Int) < (L.length : Int) := by omega
              have hi0 : (0 : Int) ≤ (i2 : Int) := by omega
              generalize L[i2] = x at *
              clear hki2 hE9
              go_upto_region 21 with fail
              go_quiet (fail)
              go_wp2_with fail
              go_roundg (gk - 1)
              case measure => have := HKI2.out; omega
              case rel => exact ⟨i2 + 1, by have := HKI2.out; omega, by go_num, below_drewN HX9.out _⟩
            · have hiI : ¬ (i2 : Int) < (L.length : Int) := by omega
              have HXX := Lib.hid (HX4.out.trans (HE8.out.trans hE9))
              clear hki2 hE9
              go_wp2
              go_ret
              exact ⟨rfl, HXX.out⟩
      · have hn0I : ¬ (0 : Int) < (n : Int) := by omega
        have hnz : n = 0 := by omega
        have HIR := Lib.hid (show IsRules wr (.slice a n cc) rs.reverse from by
          have hl : rs.reverse.length = n := by have := HRN.out; simp; omega
          refine ⟨css, by rw [hl]; exact HCN.out, HC2.out, by rw [hl]; exact HO.out.reads, fun j cs r h1 h2 => (HCE.out j cs r h1 h2).ext HXE.out⟩)
        have HOKX := Lib.hid (HNS.out rs.reverse (by have := HRN.out; simp; omega) (fun r => List.mem_reverse))
        generalize rs.reverse = RX at *
        clear hnz
        have HMX := Lib.hid (show IsMd wr (.slice av 2 cv) (.slice a n cc) ⟨m.vars, RX⟩ from ⟨HM4.out.vars.ext HXE.out, HIR.out⟩)
        have HNXX := Lib.hid (nextE_any _ _ ⟨m.vars, RX⟩ k wr HMX.out (HT4.out.ext HXE.out) HOKX.out.1 (by show 0 < m.vars.length; rw [HD.out.two]; omega) hb.1 (by show k < countL m.vars; rw [HN.out]; exact hb.2))
        rw [HOKX.out.2, HLE.out] at HNXX
        go_wp2_with fail
        refine HNXX.out.mono ?_
        rintro e w8 ⟨v8, rfl, ho8, hE8⟩
        obtain ⟨a8, c8, rfl, hr8⟩ := ho8.row
        obtain ⟨b8, o8, q81, q82⟩ := ints_at' hr8
        have ha8 := q81 hl1
        subst ha8
        have HQ8 := Lib.hid q82
        have HE8 := Lib.hid (HXE.out.trans hE8)
        have hl0 : ((L.length : Int) == 0) = false := by rw [beq_eq_false_iff_ne]; omega
        have hl3 : ((L.length : Int) != (L.length : Int)) = false := by rw [bne_eq_false_iff_eq]
        clear ho8 hE8 hr8 q81 q82 HNXX HMX x0 x1
        go_wp2_with fail
        clear hl0 hl3
        go_loopg [17] L.length (fun kk x wz => ∃ i : Nat, kk + i = L.length ∧ x = .int .i64 (i : Int) ∧ Ext w8 wz)
        case atStart => exact ⟨0, by omega, by go_num, Ext.refl _⟩
        case round =>
          obtain ⟨i2, hki2, rfl, hE9⟩ := hrel
          have HKI2 := Lib.hid hki2
          have HX9 := Lib.hid hE9
          by_cases hi2 : i2 < L.length
          · have cx := cell_later (HE8.out.trans hE9) (HQ2.out i2 hi2)
            have cy := cell_later hE9 (HQ8.out i2 hi2)
            have hiI : (i2 : Int) < (L.length : Int) := by omega
            have hi0 : (0 : Int) ≤ (i2 : Int) := by omega
            generalize L[i2] = x at *
            clear hki2 hE9
            go_upto_region 21 with fail
            go_quiet (fail)
            go_wp2_with fail
            go_roundg (gk - 1)
            case measure => have := HKI2.out; omega
            case rel => exact ⟨i2 + 1, by have := HKI2.out; omega, by go_num, below_drewN HX9.out _⟩
          · have hiI : ¬ (i2 : Int) < (L.length : Int) := by omega
            have HXX := Lib.hid (HX4.out.trans (HE8.out.trans hE9))
            clear hki2 hE9
            go_wp2
            go_ret
            exact ⟨rfl, HXX.out⟩


theorem stepTwice_law (cs : Array Value) (v1 v2 : Value) (W : World) (ht : Tab W) (h0 : Cells Tryd.prog W 25 cs.toList) (h1 : Cells Tryd.prog W 3 [v1]) (h2 : Cells Tryd.prog W 3 [v2]) :
    Calls Tryd.prog 10 #[.agg cs, v1, v2] W fun e w' => e = .returned (.bool true) ∧ Ext W w' := by
  obtain ⟨d, pv, rfl, hpl, hd⟩ := design_of h0
  obtain ⟨n1, e1, i1⟩ := h1.i64 Tryd.underlying3
  cases e1
  obtain ⟨n2, e2, i2⟩ := h2.i64 Tryd.underlying3
  cases e2
  exact stepTwice_walk pv d n1 n2 W ht hpl hd i1 i2

end Go.Proofs.YtcmbehpilldlpaaDoor
