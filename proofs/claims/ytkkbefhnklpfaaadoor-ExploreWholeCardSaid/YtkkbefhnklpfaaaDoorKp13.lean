/- Several texts in one: PrH. No condition. -/
import Derived.Test.YtkkbefhnklpfaaaDoorKp12
namespace Go.Proofs.YtkkbefhnklpfaaaDoor
open Go.RowKit

theorem xdone_gok {m : Md} {P : List Tm} {t : Tm} {X : List Sp2} {L : List (List Int)} (hk : TkOk m P t) (hX : XDone (bX m P t) (oX m t) (iX m P t) X L) (C : Nat) (hC : countL m.vars = (C : Int)) (hCN : C * 2 ^ cntA t.flat ≤ 20000) :
    GOk X.length L (X.map (sX m P t)) ((iX m P t).length : Int) (cntA t.flat) where
  nx := hX.len
  st := by simp
  max := Nat.le_trans (pairs_bound C (2 ^ cntA t.flat) hX.nd fun x hx => by
    obtain ⟨h1, h2, h3, h4⟩ := hX.ok x hx
    exact ⟨h1, by rw [← hC]; exact h2, h3, h4⟩) hCN
  i0 := by omega
  i1 := by have := hX.ilen; omega
  m6 := hk.ff.cnt
  ins := hX.inside
  bits := by
    intro s hs
    obtain ⟨x, _, rfl⟩ := List.mem_map.1 hs
    unfold sX
    have := meUp_lt t.flat (t.ends 0) (tvT (letS P (valsL m.vars x.1)) x.2.toNat t 0) t.flat.length (Nat.le_refl _)
    rw [List.take_length] at this
    refine ⟨by omega, ?_⟩
    have e : ((2 ^ cntA t.flat : Nat) : Int) = (2 : Int) ^ cntA t.flat := by push_cast; rfl
    omega

theorem spots_cells {w : World} {a : Option Addr} {n c : Nat} {X : List Sp2} (h : Spots w (.slice a n c) X) : n ≤ c ∧ c ≤ maxLen ∧ ∃ b off, (0 < X.length → a = some ⟨b, off, none⟩) ∧ ∀ (i : Nat) (hi : i < X.length), w.cell? ⟨b, off + i * 2, none⟩ = some (.int .i64 X[i].1) ∧ w.cell? ⟨b, off + i * 2 + 1, none⟩ = some (.int .i64 X[i].2) := by
  obtain ⟨a', c', e, hr⟩ := h
  simp only [Value.slice.injEq] at e
  obtain ⟨rfl, rfl, rfl⟩ := e
  exact ⟨hr.le, hr.max, spotsX_at hr⟩

/-- Spots that differ are told apart. -/
theorem Tryd.spotNe {x y : Sp2} (h : x ≠ y) (w : World) : (Op.equalIn 10000 59 (.agg #[.int .i64 x.1, .int .i64 x.2]) (.agg #[.int .i64 y.1, .int .i64 y.2])).run Tryd.prog w = .ok false w :=
  (Tryd.spotEq x y w).trans (by rw [decide_eq_false h])
theorem Tryd.spotSame (x : Sp2) (w : World) : (Op.equalIn 10000 59 (.agg #[.int .i64 x.1, .int .i64 x.2]) (.agg #[.int .i64 x.1, .int .i64 x.2])).run Tryd.prog w = .ok true w :=
  (Tryd.spotEq x x w).trans (by rw [decide_eq_true rfl])

set_option maxRecDepth 100000 in
set_option maxHeartbeats 4000000 in
theorem lcheck_nil (w : World) (ht : Tab w) : Calls Tryd.prog 46 #[.slice none 0 0, .int .i64 0] w fun e w' => e = .returned (.int .i64 4) ∧ Ext w w' := by
  have HEN := Lib.hid fun wx (hx : Ext w wx) => ends_any (.slice none 0 0) [] wx (Reads.nil _ _) (ht.ext hx)
  go_enter Tryd.func46, Tryd.ntmps46
  go_wp2_with fail
  refine (HEN.out _ (Ext.refl _)).mono ?_
  intro e w2 hh
  have hE := hh.1
  have h := hh.2
  clear hh
  obtain rfl : e = .returned (.tuple #[.slice none 0 0, .int .i64 4]) := h
  have HE := Lib.hid hE
  clear hE
  go_wp2
  go_ret
  exact ⟨rfl, HE.out⟩

theorem nil_ok : (⟨[], []⟩ : Md).Ok where
  six := by simp
  vars := by simp
  count := by decide
  twelve := by simp
  rules := by simp
  names := by simp
  kinds := by simp

theorem nil_each {α : Type} {sz : Nat} {E : World → α → List Value → Prop} (w : World) : EachL sz E w (.slice none 0 0) ([] : List α) :=
  ⟨[], rfl, by simp, Reads.nil w sz, by intro i cs x h; simp at h⟩

set_option maxRecDepth 100000 in
set_option maxHeartbeats 4000000 in
theorem pcheck_nil (w : World) (ht : Tab w) : Calls Tryd.prog 25 #[.agg #[.slice none 0 0, .slice none 0 0, .slice none 0 0, .slice none 0 0]] w fun e w' => e = .returned (.int .i64 4) ∧ Ext w w' := by
  have HPR := Lib.hid fun wx (hx : Ext w wx) => props_any (.slice none 0 0) (.slice none 0 0) (.slice none 0 0) ⟨[], []⟩ [] wx ⟨nil_each wx, nil_each wx⟩ (ht.ext hx) nil_ok (nil_each wx) ⟨by simp, by simp⟩
  have HLC := Lib.hid fun wx (hx : Ext w wx) => lcheck_nil wx (ht.ext hx)
  clear ht
  have hb := blk_new w (Obj.cells #[.slice none 0 0, .slice none 0 0, .slice none 0 0, .slice none 0 0] 49)
  have HE := Lib.hid (ext_al (Ext.refl w) (Obj.cells #[.slice none 0 0, .slice none 0 0, .slice none 0 0, .slice none 0 0] 49))
  have HB := Lib.hid hb
  have d0 := blk_cell hb (i := 0) rfl
  have d1 := blk_cell hb (i := 1) rfl
  have d2 := blk_cell hb (i := 2) rfl
  clear hb
  go_enter Tryd.func25, Tryd.ntmps25
  go_wp2_with fail
  generalize w.alloc (Obj.cells #[.slice none 0 0, .slice none 0 0, .slice none 0 0, .slice none 0 0] 49) = W1 at *
  refine (HPR.out _ HE.out).mono ?_
  rintro e w2 ⟨rfl, hE2⟩
  have HX2 := Lib.hid (HE.out.trans hE2)
  have d2 := blk_cell (blk_ext HB.out hE2) (i := 2) rfl
  have d3 := blk_cell (blk_ext HB.out hE2) (i := 3) rfl
  clear hE2 d0 d1
  go_wp2_with fail
  refine (HLC.out _ HX2.out).mono ?_
  rintro e w3 ⟨rfl, hE3⟩
  have HX3 := Lib.hid (HX2.out.trans hE3)
  clear hE3
  go_wp2
  go_ret
  exact ⟨rfl, HX3.out⟩

set_option maxRecDepth 100000 in
set_option maxHeartbeats 16000000 in
theorem exploreWhole_walk (pv fr : Value) (d : Dn) (raw : List Op2) (W : World) (ht : Tab W) (hpl : IsPlans W pv d.rules) (hd : DnI d) (hr : Ops W fr raw) (hR : RawF raw) :
    Calls Tryd.prog 8 #[.agg (dnc d pv), fr] W fun e w' => e = .returned (.bool true) ∧ Ext W w' := by
  have EE := ext_al (Ext.refl W) (Obj.cells (dnc d pv) 25)
  have HTA := Lib.hid (task_any pv fr d raw 2 _ (hpl.ext EE) hd (ops_ext hr EE) hR (by omega))
  have HK := Lib.hid (task_ok d raw 2 (by omega))
  have hcn := forO_cnt raw 2
  have hn1 := d.drawn.n1
  have hn16 := d.drawn.n16
  have HEE := Lib.hid EE
  have HTB := Lib.hid (ht.ext EE)
  obtain ⟨ar0, cr0, rfl, _⟩ := id hr
  generalize forO raw 3 2 = t at *
  generalize d.md = m at *
  simp only [dnc] at HTA HEE HTB ⊢
  generalize raw.length = nraw at *
  clear ht hpl hd hr hR EE
  go_enter Tryd.func8, Tryd.ntmps8
  go_wp2_with fail
  generalize W.alloc (Obj.cells #[.int .i64 d.s0, .int .i64 d.s1, .int .i64 d.l0, .int .i64 d.l1, .int .i64 d.i0, .int .i64 d.i1, pv] 25) = W0 at *
  refine HTA.out.mono ?_
  rintro e w1 ⟨vv, rv, qv, fv, rfl, hT1, hE1⟩
  obtain ⟨av, cv, ar, cr, ap, cp, af, nf, cf, rfl, rfl, rfl, rfl⟩ := hT1.val
  have HT1 := Lib.hid hT1
  have HX1 := Lib.hid (HEE.out.trans hE1)
  have HTB1 := Lib.hid (HTB.out.ext hE1)
  clear hT1 hE1 HTA HTB
  obtain ⟨C, hC⟩ : ∃ C : Nat, countL m.vars = (C : Int) := ⟨(countL m.vars).toNat, by omega⟩
  have hCN : C * 2 ^ cntA t.flat ≤ 20000 := by
    have h1 : C ≤ 16 := by omega
    have h2 := Nat.pow_le_pow_right (n := 2) (by omega) hcn
    exact Nat.le_trans (Nat.mul_le_mul h1 h2) (by decide)
  have HEX := Lib.hid fun wx (hx : Ext w1 wx) => explore_any _ _ _ _ m propT t wx (HT1.out.ext hx) (HTB1.out.ext hx) HK.out C hC hCN
  have HBG := Lib.hid fun wx (hx : Ext w1 wx) => (show Calls Tryd.prog 15 #[.agg #[.slice av m.vars.length cv, .slice ar m.rules.length cr, .slice ap propT.length cp, .slice af nf cf]] wx fun e w' => ∃ v, e = .returned (.tuple #[v, .int .i64 0]) ∧
      w'.ownsRow wx.heap.size 59 2 v (iX m propT t).length ((iX m propT t).flatMap spc) ∧ Ext wx w' from begin_any _ _ _ _ m propT t wx (HT1.out.ext hx) (HTB1.out.ext hx) HK.out)
  have HBY := Lib.hid fun (x : Sp2) wx (hx : Ext w1 wx) (ho : oX m t x) => (show Calls Tryd.prog 21 #[.agg #[.slice av m.vars.length cv, .slice ar m.rules.length cr, .slice ap propT.length cp, .slice af nf cf], .agg #[.int .i64 x.1, .int .i64 x.2]] wx fun e w' => ∃ v, e = .returned (.tuple #[v, .int .i64 0]) ∧
      w'.ownsRow wx.heap.size 59 2 v (bX m propT t x).length ((bX m propT t x).flatMap spc) ∧ Ext wx w' from by
    have h := pbehind_any _ _ _ _ m propT t x.1 x.2.toNat wx (HT1.out.ext hx) (HTB1.out.ext hx) HK.out ho.1 ho.2.1 (by have := ho.2.2; omega)
    rw [show ((x.2.toNat : Nat) : Int) = x.2 from by have := ho.2.2.1; omega] at h
    exact h)
  have HGK := Lib.hid fun X L (hX : XDone (bX m propT t) (oX m t) (iX m propT t) X L) => xdone_gok HK.out hX C hC hCN
  have HPC := Lib.hid fun wx (hx : Ext w1 wx) => pcheck_nil wx (HTB1.out.ext hx)
  clear hC hCN hn1 hn16 hcn
  generalize m.vars.length = nv at *
  generalize m.rules.length = nr at *
  generalize propT.length = np at *
  have HQ1 := Lib.hid (blk_new w1 (Obj.cells #[.slice av nv cv, .slice ar nr cr, .slice ap np cp, .slice af nf cf] 49))
  have HXA := Lib.hid (ext_al (Ext.refl w1) (Obj.cells #[.slice av nv cv, .slice ar nr cr, .slice ap np cp, .slice af nf cf] 49))
  have d0 := blk_cell HQ1.out (i := 0) rfl
  have d1 := blk_cell HQ1.out (i := 1) rfl
  have d2 := blk_cell HQ1.out (i := 2) rfl
  have d3 := blk_cell HQ1.out (i := 3) rfl
  go_wp2_with fail
  generalize w1.alloc (Obj.cells #[.slice av nv cv, .slice ar nr cr, .slice ap np cp, .slice af nf cf] 49) = W2 at *
  refine (HEX.out _ HXA.out).mono ?_
  unfold ExplR
  rintro e w3 ⟨τ, sp, nx, st, X, L, rfl, hG, hX, hE3⟩
  have HOK := Lib.hid (HGK.out X L hX)
  have HXD := Lib.hid hX
  have HSP := Lib.hid hG.spots
  have HLI := Lib.hid hG.lists
  have HST := Lib.hid hG.ints
  have hLX := hX.len
  have hIX := hX.ilen
  obtain ⟨k, hk6⟩ : ∃ x, cntA t.flat = x := ⟨_, rfl⟩
  rw [hk6] at HOK ⊢
  obtain ⟨asp, csp, rfl, _⟩ := id hG.spots
  obtain ⟨ax, cx, rfl⟩ : ∃ a c, nx = .slice a L.length c := by
    obtain ⟨vs, _, a, c, e, _⟩ := hG.lists
    exact ⟨a, c, e⟩
  obtain ⟨at', ct, rfl, _⟩ := id hG.ints
  have hTl : (X.map (sX m propT t)).length = X.length := by simp
  generalize X.map (sX m propT t) = T at *
  obtain ⟨n, hn⟩ : ∃ n, X.length = n := ⟨_, rfl⟩
  rw [hn] at hLX hTl hIX
  rw [hn, hLX, hTl]
  rw [hn] at HOK
  have HNX := Lib.hid hn
  have HNL := Lib.hid hLX
  have HNT := Lib.hid hTl
  have hn20 := HOK.out.max
  clear hn hLX hTl
  have HY3 := Lib.hid (HXA.out.trans hE3)
  generalize hIe : iX m propT t = I at *
  generalize bX m propT t = BF at *
  generalize oX m t = OX at *
  have HQ3 := Lib.hid (blk_ext HQ1.out hE3)
  have hgn := blk_new w3 (Obj.cells #[.slice asp n csp, .int .i64 (I.length : Int), .slice ax n cx, .slice at' n ct, .int .i64 (k : Int)] 70)
  have hgx := ext_al (Ext.refl w3) (Obj.cells #[.slice asp n csp, .int .i64 (I.length : Int), .slice ax n cx, .slice at' n ct, .int .i64 (k : Int)] 70)
  have HGB := Lib.hid hgn
  have HGX := Lib.hid hgx
  have d0 := blk_cell (blk_ext HQ3.out hgx) (i := 0) rfl
  have d1 := blk_cell (blk_ext HQ3.out hgx) (i := 1) rfl
  have d2 := blk_cell (blk_ext HQ3.out hgx) (i := 2) rfl
  have d3 := blk_cell (blk_ext HQ3.out hgx) (i := 3) rfl
  clear hG hX hE3 hgn hgx hIe hk6 HEX
  go_wp2_with fail
  generalize w3.alloc (Obj.cells #[.slice asp n csp, .int .i64 (I.length : Int), .slice ax n cx, .slice at' n ct, .int .i64 (k : Int)] 70) = W4 at *
  refine (HBG.out _ (HY3.out.trans HGX.out)).mono ?_
  rintro e w5 ⟨v5, rfl, ho5, hE5⟩
  obtain ⟨a5, c5, rfl, _⟩ := id ho5.row
  have HX5 := Lib.hid (HGX.out.trans hE5)
  have HG5 := Lib.hid (blk_ext HGB.out hE5)
  have g0 := blk_cell HG5.out (i := 0) rfl
  have g1 := blk_cell HG5.out (i := 1) rfl
  have g2 := blk_cell HG5.out (i := 2) rfl
  have g3 := blk_cell HG5.out (i := 3) rfl
  clear ho5 hE5 d0 d1 d2 d3 HBG
  go_wp2_with fail
  go_loopg [10] n (fun g x wr => ∃ i : Nat, g + i = n ∧ x = .int .i64 (i : Int) ∧ Ext w5 wr)
  case atStart => exact ⟨0, by omega, by go_num, Ext.refl _⟩
  case round =>
    obtain ⟨i, hgi, rfl, hE⟩ := hrel
    have HGI := Lib.hid hgi
    have HEE1 := Lib.hid hE
    have hGr := blk_ext HG5.out hE
    clear hgi
    by_cases hi : i < n
    · have g0 := blk_cell hGr (i := 0) rfl
      have hiI : (i : Int) < (n : Int) := by omega
      have hi0 : (0 : Int) ≤ (i : Int) := by omega
      have hiX : i < X.length := by have := HNX.out; omega
      have HIX := Lib.hid hiX
      clear hE hGr hiX
      go_wp2_with fail
      obtain ⟨wo, rfl⟩ : ∃ wo : World, wo = wr := ⟨_, rfl⟩
      obtain ⟨G0, rfl⟩ : ∃ G0 : Nat, G0 = gk := ⟨_, rfl⟩
      go_loopg [11] i (fun g x wq => ∃ k : Nat, g + k = i ∧ x = .int .i64 (k : Int) ∧ Ext w5 wq)
      case atStart => exact ⟨0, by omega, by go_num, HEE1.out⟩
      case round =>
        obtain ⟨j, hgj, rfl, hE⟩ := hrel
        have HGJ := Lib.hid hgj
        have HEJ := Lib.hid hE
        have hGr := blk_ext HG5.out hE
        have g0 := blk_cell hGr (i := 0) rfl
        have hsr := HSP.out.ext (HX5.out.trans hE)
        rw [HNX.out] at hsr
        obtain ⟨hcs, hcm, bS, oS, s1, s2⟩ := spots_cells hsr
        clear hgj
        by_cases hj : j < i
        · obtain rfl := s1 (by have := HIX.out; omega)
          have hjX : j < X.length := by have := HIX.out; omega
          obtain ⟨c0, c1⟩ := s2 i HIX.out
          obtain ⟨e0, e1⟩ := s2 j hjX
          have hEQ := Tryd.spotNe (x := X[i]'HIX.out) (y := X[j]) fun e => by
            have := nodup_at HXD.out.nd (i := i) (j := j) (List.getElem?_eq_getElem HIX.out) (by rw [List.getElem?_eq_getElem hjX, e])
            omega
          generalize X[i]'HIX.out = x at *
          generalize X[j] = y at *
          have hjI : (j : Int) < (i : Int) := by omega
          have hjI2 : (j : Int) < (n : Int) := by omega
          have hj0 : (0 : Int) ≤ (j : Int) := by omega
          clear hE hGr hsr s1 s2 hjX
          go_wp2_with fail
          go_quiet (fail)
          have HEQ := Lib.hid (Ext.trans HEJ.out (below_drewN (Ext.refl _) nq))
          clear hEQ c0 c1 e0 e1 g0
          go_wp2_with fail
          go_roundg (gk - 1)
          case measure => have := HGJ.out; omega
          case rel => exact ⟨j + 1, by have := HGJ.out; omega, by go_num, HEQ.out⟩
        · obtain rfl : j = i := by have := HGJ.out; omega
          have hjI : ¬ (j : Int) < (j : Int) := by omega
          obtain rfl := s1 (by have := HIX.out; omega)
          obtain ⟨c0, c1⟩ := s2 j HIX.out
          have hXi := List.getElem?_eq_getElem HIX.out
          generalize X[j]'HIX.out = x at *
          obtain ⟨lj, hlj⟩ : ∃ l, L[j]? = some l := ⟨_, List.getElem?_eq_getElem (show j < L.length by have := HNL.out; omega)⟩
          have HLD := Lib.hid (HXD.out.lead j _ _ hlj hXi)
          have hxo := HXD.out.ok _ (List.mem_of_getElem? hXi)
          have hq := blk_ext HQ3.out (HX5.out.trans hE)
          have d0 := blk_cell hq (i := 0) rfl
          have d1 := blk_cell hq (i := 1) rfl
          have d2 := blk_cell hq (i := 2) rfl
          have d3 := blk_cell hq (i := 3) rfl
          have HLJ := Lib.hid hlj
          have HBH := Lib.hid fun wx (hx : Ext wr wx) => HBY.out x wx ((HY3.out.trans (HX5.out.trans hE)).trans hx) hxo
          clear hE hGr hsr s1 s2 hXi hlj hxo hq
          go_upto_region 14 with fail
          go_cut [12, 13] (fun s12 s13 wx => s13 = .int .i64 0 ∧ ∃ (a6 : Option Addr) (c6 : Nat), s12 = .slice a6 (BF x).length c6 ∧ Reads wx 2 (.slice a6 (BF x).length c6) (BF x).length ((BF x).flatMap spc) ∧ Ext wr wx)
          case first =>
            go_region_law (first
              | (go_simp
                 go_at_call 21
                 refine (HBH.out _ (Below.drew (Ext.refl _))).mono ?_
                 rintro e w6 ⟨v6, rfl, ho6, hE6⟩
                 obtain ⟨a6, c6, rfl, _⟩ := id ho6.row
                 have HE6 := Lib.hid (Ext.trans (Below.drew (Ext.refl wr)) hE6)
                 have HO6 := Lib.hid ho6.reads
                 clear ho6 hE6))
            all_goals
              go_wp2_with fail
              go_meet
              exact ⟨rfl, a6, c6, rfl, HO6.out, HE6.out⟩
          case rest =>
          obtain ⟨rfl, a6, c6, rfl, ho6, hE6⟩ := hcut
          have HE6 := Lib.hid (HEJ.out.trans hE6)
          have HO6 := Lib.hid ho6
          clear hE6 ho6 c0 c1 d0 d1 d2 d3 g0
          have hgr := blk_ext HG5.out HE6.out
          have g2 := blk_cell hgr (i := 2) rfl
          have hlr := HLI.out.ext (HX5.out.trans HE6.out)
          rw [HNL.out] at hlr
          obtain ⟨-, hcl, hcm2, bL, oL, l1, l2⟩ := hlr.cells
          obtain rfl := l1 (by omega)
          obtain ⟨al, cl, cL, hil⟩ := l2 j (by have := HNL.out; omega)
          have hlge : L[j]'(by have := HNL.out; omega) = lj := by
            have h := HLJ.out
            rw [List.getElem?_eq_getElem (by have := HNL.out; omega)] at h
            exact Option.some.inj h
          rw [hlge, HLD.out.1] at cL
          have hxb := HO6.out
          have HO6 := Lib.hid hxb
          obtain ⟨nB, hnB⟩ : ∃ q, (BF x).length = q := ⟨_, rfl⟩
          rw [hnB] at HO6 cL ⊢
          have hB20 : nB ≤ 9223372036854775807 := by
            obtain ⟨_, _, e, hr⟩ := hxb
            simp only [Value.slice.injEq] at e
            obtain ⟨-, -, rfl⟩ := e
            have h1 := hr.le
            have h2 := hr.max
            unfold maxLen at h2
            omega
          have HNB := Lib.hid hnB
          clear hxb hnB
          go_wp2_with fail
          obtain ⟨wo2, rfl⟩ : ∃ wo : World, wo = wc := ⟨_, rfl⟩
          clear g2 cL hil l2 hcl hcm2 hgr hlr
          go_loopg [14] nB (fun g x wq => ∃ k : Nat, g + k = nB ∧ x = .int .i64 (k : Int) ∧ Ext wo2 wq)
          case atStart => exact ⟨0, by omega, by go_num, Ext.refl _⟩
          case round =>
            obtain ⟨y, hgy, rfl, hE⟩ := hrel
            have HGY := Lib.hid hgy
            have HEY := Lib.hid hE
            clear hgy
            by_cases hy : y < nB
            · have hEY := HE6.out.trans hE
              have hgr := blk_ext HG5.out hEY
              have g0 := blk_cell hgr (i := 0) rfl
              have g2 := blk_cell hgr (i := 2) rfl
              have hlr := HLI.out.ext (HX5.out.trans hEY)
              rw [HNL.out] at hlr
              obtain ⟨-, hcl, -, bL', oL', l1, l2⟩ := hlr.cells
              have l1' := l1 (by omega)
              simp only [Option.some.injEq, Addr.mk.injEq, and_true] at l1'
              obtain ⟨rfl, rfl⟩ := l1'
              obtain ⟨al, cl, cL, hil⟩ := l2 j (by have := HNL.out; omega)
              have hlge : L[j]'(by have := HNL.out; omega) = lj := by
                have h := HLJ.out
                rw [List.getElem?_eq_getElem (by have := HNL.out; omega)] at h
                exact Option.some.inj h
              have hllen := HLD.out.1
              rw [HNB.out] at hllen
              rw [hlge, hllen] at cL
              rw [hlge] at hil
              obtain ⟨_, _, e1, hr⟩ := id hil
              simp only [Value.slice.injEq] at e1
              obtain ⟨rfl, -, rfl⟩ := e1
              obtain ⟨bI, oI, i1, i2⟩ := ints_cells hr
              obtain rfl := i1 (by omega)
              have ci := i2 y (by omega)
              have hyB : y < (BF x).length := by rw [HNB.out]; exact hy
              obtain ⟨q, hq1, hq2⟩ := HLD.out.2 y (lj[y]'(by omega)) ((BF x)[y]) (List.getElem?_eq_getElem (by omega)) (List.getElem?_eq_getElem hyB)
              rw [hq1] at ci
              obtain ⟨_, _, e2, hr6⟩ := id (HO6.out.ext hE)
              simp only [Value.slice.injEq] at e2
              obtain ⟨rfl, -, rfl⟩ := e2
              obtain ⟨b6, o6, j1, j2⟩ := spotsX_at hr6
              obtain rfl := j1 (by omega)
              obtain ⟨u0, u1⟩ := j2 y hyB
              have hsr := HSP.out.ext (HX5.out.trans hEY)
              rw [HNX.out] at hsr
              obtain ⟨hcs, -, bS', oS', s1, s2⟩ := spots_cells hsr
              have hqX := (List.getElem?_eq_some_iff.1 hq2).1
              have s1' := s1 (by omega)
              simp only [Option.some.injEq, Addr.mk.injEq, and_true] at s1'
              obtain ⟨rfl, rfl⟩ := s1'
              obtain ⟨t0, t1⟩ := s2 q hqX
              rw [(List.getElem?_eq_some_iff.1 hq2).2] at t0 t1
              have hEQ := Tryd.spotSame ((BF x)[y])
              generalize (BF x)[y] = z at *
              have hqn : q < n := by have := HNX.out; omega
              have hllc := hr.le
              have h6c := hr6.le
              have hyI : (y : Int) < (nB : Int) := by omega
              have hy0 : (0 : Int) ≤ (y : Int) := by omega
              have hjn : (j : Int) < (n : Int) := by omega
              have hj0 : (0 : Int) ≤ (j : Int) := by omega
              have hqI : (q : Int) < (n : Int) := by omega
              have hq0 : (0 : Int) ≤ (q : Int) := by omega
              have hk1 : decide ((q : Int) < 0) = false := decide_eq_false (by omega)
              have hk2 : decide ((n : Int) ≤ (q : Int)) = false := decide_eq_false (by omega)
              clear hE hEY hgr hlr l1 l2 hlge hllen hil hr i1 i2 hyB hq1 hq2 hr6 j1 j2 hsr s1 s2 hqX
              go_wp2_with fail
              go_quiet (fail)
              have HEQ := Lib.hid (Ext.trans HEY.out (below_drewN (Ext.refl _) nq))
              clear hEQ u0 u1 t0 t1 ci cL g0 g2
              go_wp2_with fail
              go_roundg (gk - 1)
              case measure => have := HGY.out; omega
              case rel => exact ⟨y + 1, by have := HGY.out; omega, by go_num, HEQ.out⟩
            · obtain rfl : y = nB := by have := HGY.out; omega
              have hyI : ¬ (y : Int) < (y : Int) := by omega
              have HEF := Lib.hid (HE6.out.trans hE)
              clear hE
              go_wp2_with fail
              go_roundg (G0 - 1)
              case measure => have := HGI.out; omega
              case rel => exact ⟨j + 1, by have := HGI.out; omega, by go_num, HEF.out⟩
    · obtain rfl : i = n := by have := HGI.out; omega
      have g0 := blk_cell hGr (i := 0) rfl
      have g1 := blk_cell hGr (i := 1) rfl
      have g2 := blk_cell hGr (i := 2) rfl
      have g3 := blk_cell hGr (i := 3) rfl
      have g4 := blk_cell hGr (i := 4) rfl
      have hiI : ¬ (i : Int) < (i : Int) := by omega
      have hw3 := HX5.out.trans hE
      have hre := reached_any (.slice asp X.length csp) (.slice ax L.length cx) (.slice at' T.length ct) I.length k X L T wr (HSP.out.ext hw3) (HLI.out.ext hw3) (HST.out.ext hw3) (by rw [HNX.out]; exact HOK.out)
      have HCK := Lib.hid fun wx (hx : Ext wr wx) => gcheck_ok (.slice asp X.length csp) (.slice ax L.length cx) (.slice at' T.length ct) (I.length : Int) k X L T wx (HSP.out.ext (hw3.trans hx)) (HLI.out.ext (hw3.trans hx)) (HST.out.ext (hw3.trans hx)) (by rw [HNX.out]; exact HOK.out)
      have HPX := Lib.hid fun wx (hx : Ext wr wx) => HPC.out wx ((HY3.out.trans hw3).trans hx)
      rw [HNX.out, HNL.out, HNT.out] at hre HCK
      have HRE := Lib.hid hre
      have HEF := Lib.hid (HX1.out.trans (HY3.out.trans hw3))
      have HGF := Lib.hid hGr
      clear hE hGr hw3 hre
      go_wp2_with fail
      refine HRE.out.mono ?_
      rintro e w7 ⟨v7, rfl, seen, ho7, hsl, hsr, hE7⟩
      obtain ⟨a7, c7, rfl, _⟩ := id ho7.row
      have HO7 := Lib.hid ho7
      have HE7 := Lib.hid hE7
      have HALL := Lib.hid (show ∀ q, q < i → seen[q]? = some true from fun q hq => (hsr q).2 (HXD.out.reach q (by rw [HNX.out]; exact hq)))
      obtain ⟨H7, hH7⟩ : ∃ x, wr.heap.size = x := ⟨_, rfl⟩
      rw [hH7] at HO7
      clear ho7 hsl hsr hE7 hH7 g0 g1 g2 g3 g4 HRE
      go_wp2_with fail
      obtain ⟨wo, rfl⟩ : ∃ wo : World, wo = wr := ⟨_, rfl⟩
      go_loopg [18] i (fun g x wq => ∃ k : Nat, g + k = i ∧ x = .int .i64 (k : Int) ∧ wq = w7)
      case atStart => exact ⟨0, by omega, by go_num, rfl⟩
      case round =>
        obtain ⟨y, hgy, rfl, rfl⟩ := hrel
        have HGY := Lib.hid hgy
        clear hgy
        by_cases hy : y < i
        · have hsy := HALL.out y hy
          obtain ⟨_, _, e1, hr⟩ := id HO7.out.row
          simp only [Value.slice.injEq] at e1
          obtain ⟨rfl, -, rfl⟩ := e1
          obtain ⟨bI, oI, i1, i2⟩ := row_cells hr
          have hsl := (List.getElem?_eq_some_iff.1 hsy).1
          obtain rfl := i1 (by omega)
          have ci := i2 y hsl
          rw [(List.getElem?_eq_some_iff.1 hsy).2] at ci
          have hcap := hr.le
          have hyI : (y : Int) < (i : Int) := by omega
          have hy0 : (0 : Int) ≤ (y : Int) := by omega
          clear hsy hr i1 i2 hsl
          go_wp2_with fail
          go_roundg (gk - 1)
          case measure => have := HGY.out; omega
          case rel => exact ⟨y + 1, by have := HGY.out; omega, by go_num, rfl⟩
        · obtain rfl : y = i := by have := HGY.out; omega
          have hyI : ¬ (y : Int) < (y : Int) := by omega
          have hg7 := blk_ext HGF.out HE7.out
          have g0 := blk_cell hg7 (i := 0) rfl
          have g1 := blk_cell hg7 (i := 1) rfl
          have g2 := blk_cell hg7 (i := 2) rfl
          have g3 := blk_cell hg7 (i := 3) rfl
          have g4 := blk_cell hg7 (i := 4) rfl
          clear hg7
          go_wp2_with fail
          refine (HCK.out _ HE7.out).mono ?_
          rintro e w8 ⟨rfl, hE8⟩
          have HE8 := Lib.hid (HE7.out.trans hE8)
          clear hE8 g0 g1 g2 g3 g4
          go_wp2_with fail
          refine (HPX.out _ HE8.out).mono ?_
          rintro e w9 ⟨rfl, hE9⟩
          have HE9 := Lib.hid (HEF.out.trans (HE8.out.trans hE9))
          clear hE9
          go_wp2
          go_ret
          exact ⟨rfl, HE9.out⟩

theorem exploreWhole_law (cs : Array Value) (v1 : Value) (W : World) (ht : Tab W) (h0 : Cells Tryd.prog W 25 cs.toList) (h1 : Cells Tryd.prog W 46 [v1]) :
    Calls Tryd.prog 8 #[.agg cs, v1] W fun e w' => e = .returned (.bool true) ∧ Ext W w' := by
  obtain ⟨d, pv, rfl, hpl, hd⟩ := design_of h0
  obtain ⟨raw, hr, hR⟩ := raw_for h1
  exact exploreWhole_walk pv v1 d raw W ht hpl hd hr hR

end Go.Proofs.YtkkbefhnklpfaaaDoor
