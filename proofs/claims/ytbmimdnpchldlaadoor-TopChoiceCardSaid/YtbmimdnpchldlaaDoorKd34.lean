/- Several texts in one: VerA. No condition. -/
import Derived.Test.YtbmimdnpchldlaaDoorKd24
import Derived.Test.YtbmimdnpchldlaaDoorKd32
import Derived.Test.YtbmimdnpchldlaaDoorKd7
import Derived.Deep.DeepCutAuto
import Derived.Deep.RegionLaw
namespace Go.Proofs.YtbmimdnpchldlaaDoor
open Go.RowKit

/-- What Check answers. -/
def VerR (m : Md) (P : List Tm) (t : Tm) (w : World) (e : Ending) (w' : World) : Prop :=
  ∃ (b : Bool) (a1 : Option Addr) (n1 c1 : Nat) (a2 : Option Addr) (n2 c2 : Nat), e = .returned (.tuple #[.agg #[.bool b, .slice a1 n1 c1, .slice a2 n2 c2], .int .i64 0]) ∧ (b = true ↔ HoldsR m P t) ∧ Ext w w'

theorem set3 (a b c u : Value) : (#[a, b, c].setIfInBounds 0 u) = #[u, b, c] ∧ (#[a, b, c].setIfInBounds 1 u) = #[a, u, c] ∧ (#[a, b, c].setIfInBounds 2 u) = #[a, b, u] := by simp

/-- A verdict under way. -/
structure VBox (V : Nat) (Wb w : World) (v1 v2 : Value) : Prop where
  blk : w.heap[V]? = some (.cells #[.bool false, v1, v2] 57 (0, 0))
  e : Ext Wb w
  lo : Wb.heap.size ≤ V

theorem VBox.ext {V : Nat} {Wb w w' : World} {v1 v2 : Value} (h : VBox V Wb w v1 v2) (hE : Ext w w') : VBox V Wb w' v1 v2 := ⟨blk_ext h.blk hE, h.e.trans hE, h.lo⟩
theorem VBox.grown {V : Nat} {Wb w w' : World} {v1 v2 v : Value} {t : TypeId} {n : Nat} {xs : List Value} (h : VBox V Wb w v1 v2) (ho : w.ownsRow (V + 1) t 1 v n xs) (hg : w.grownBy w' v.ownBlock) : VBox V Wb w' v1 v2 := by
  have hlo := h.lo
  exact ⟨blk_grown h.blk hg (fun e => by have := (ho.lt V e.symm).1; omega), Below.grown h.e hg h.e.size (fun b hb => by have := (ho.lt b hb).1; omega), hlo⟩
theorem VBox.set1 {V : Nat} {Wb w : World} {v1 v2 : Value} (h : VBox V Wb w v1 v2) (u : Value) : VBox V Wb (w.setCell ⟨V, 1, none⟩ u) u v2 := by
  have hb := blk_set (i := 1) h.blk u
  rw [(set3 _ _ _ _).2.1] at hb
  exact ⟨hb, ext_st h.e (p := ⟨V, 1, none⟩) h.lo u, h.lo⟩
theorem VBox.set2 {V : Nat} {Wb w : World} {v1 v2 : Value} (h : VBox V Wb w v1 v2) (u : Value) : VBox V Wb (w.setCell ⟨V, 2, none⟩ u) v1 u := by
  have hb := blk_set (i := 2) h.blk u
  rw [(set3 _ _ _ _).2.2] at hb
  exact ⟨hb, ext_st h.e (p := ⟨V, 2, none⟩) h.lo u, h.lo⟩

set_option maxRecDepth 100000 in
set_option maxHeartbeats 16000000 in
theorem verdict_any (vv rv pv fv : Value) (m : Md) (P : List Tm) (t : Tm) (w : World) (h : IsTask w vv rv pv fv m P t) (ht : Tab w) (hk : TkOk m P t) (C : Nat) (hC : countL m.vars = (C : Int)) (hCN : C * 2 ^ cntA t.flat ≤ 20000) :
    Calls Tryd.prog 12 #[.agg #[vv, rv, pv, fv]] w (VerR m P t w) := by
  have HEX := Lib.hid fun wx (hx : Ext w wx) => explore_any vv rv pv fv m P t wx (h.ext hx) (ht.ext hx) hk C hC hCN
  have HGO := Lib.hid fun X L (hX : XDone (bX m P t) (oX m t) (iX m P t) X L) => xdone_gok hk hX C hC hCN
  have HFI := Lib.hid fun X L (hX : XDone (bX m P t) (oX m t) (iX m P t) X L) => fair_iff hk hX
  obtain ⟨av, cv, ar, cr, ap, cp, af, nf, cf, rfl, rfl, rfl, rfl⟩ := h.val
  generalize m.vars.length = nv at *
  generalize m.rules.length = nr at *
  generalize P.length = np at *
  clear h ht hk hC hCN
  have hb := blk_new w (Obj.cells #[.slice av nv cv, .slice ar nr cr, .slice ap np cp, .slice af nf cf] 34)
  have hx := ext_al (Ext.refl (w.alloc (Obj.cells #[.slice av nv cv, .slice ar nr cr, .slice ap np cp, .slice af nf cf] 34))) (Obj.cells #[.bool false, .slice none 0 0, .slice none 0 0] 57)
  have hb2 := blk_new (w.alloc (Obj.cells #[.slice av nv cv, .slice ar nr cr, .slice ap np cp, .slice af nf cf] 34)) (Obj.cells #[.bool false, .slice none 0 0, .slice none 0 0] 57)
  rw [World.size_alloc] at hb2
  have HE := Lib.hid ((ext_al (Ext.refl w) (Obj.cells #[.slice av nv cv, .slice ar nr cr, .slice ap np cp, .slice af nf cf] 34)).trans hx)
  have HB := Lib.hid (blk_ext hb hx)
  have HR := Lib.hid hb2
  have d0 := blk_cell HB.out (i := 0) rfl
  have d1 := blk_cell HB.out (i := 1) rfl
  have d2 := blk_cell HB.out (i := 2) rfl
  have d3 := blk_cell HB.out (i := 3) rfl
  clear hb hx hb2
  go_enter Tryd.func12, Tryd.ntmps12
  go_wp2_with fail
  generalize (w.alloc (Obj.cells #[.slice av nv cv, .slice ar nr cr, .slice ap np cp, .slice af nf cf] 34)).alloc (Obj.cells #[.bool false, .slice none 0 0, .slice none 0 0] 57) = W0 at *
  refine (HEX.out _ HE.out).mono ?_
  rintro e w1 ⟨τ, sp, nx, st, X, L, rfl, hm, hX, hE1⟩
  have hsp := hm.spots
  have hli := hm.lists
  have hin := hm.ints
  have hgo := HGO.out X L hX
  have hfi := HFI.out X L hX
  have hs1 : (X.map (sX m P t)).length = X.length := by simp
  have hxl : L.length = X.length := hgo.nx
  obtain ⟨ini, hini⟩ : ∃ k, (iX m P t).length = k := ⟨_, rfl⟩
  obtain ⟨kA, hkA⟩ : ∃ k, cntA t.flat = k := ⟨_, rfl⟩
  obtain ⟨bits, hbits⟩ : ∃ k, X.map (sX m P t) = k := ⟨_, rfl⟩
  rw [hini, hkA, hbits] at hgo hfi
  rw [hini, hkA]
  rw [hbits] at hin hs1
  obtain ⟨asp, csp, rfl, _⟩ := id hsp
  obtain ⟨ax, cx, rfl⟩ : ∃ a c, nx = .slice a L.length c := by
    obtain ⟨vs, _, a, c, e, _⟩ := hli
    exact ⟨a, c, e⟩
  obtain ⟨at', ct, rfl, _⟩ := id hin
  have h20 := hgo.max
  have HGO2 := Lib.hid hgo
  have HFI2 := Lib.hid hfi
  have HSP := Lib.hid hsp
  have HLI := Lib.hid hli
  have HIN := Lib.hid hin
  obtain ⟨n, hn⟩ : ∃ k, X.length = k := ⟨_, rfl⟩
  rw [hn] at HSP hxl hs1 h20 HGO2 HFI2 ⊢
  rw [hxl] at HLI ⊢
  rw [hs1] at HIN ⊢
  have HXN := Lib.hid hn
  have HE1 := Lib.hid (HE.out.trans hE1)
  have HR1 := Lib.hid (blk_ext HR.out hE1)
  have hx2 := ext_al (Ext.refl w1) (Obj.cells #[.slice asp n csp, .int .i64 (ini : Int), .slice ax n cx, .slice at' n ct, .int .i64 (kA : Int)] 40)
  have HG2 := Lib.hid (blk_new w1 (Obj.cells #[.slice asp n csp, .int .i64 (ini : Int), .slice ax n cx, .slice at' n ct, .int .i64 (kA : Int)] 40))
  have HX2 := Lib.hid hx2
  have HLA := Lib.hid fun wx (hx : Ext w1 wx) => lasso_any (.slice asp n csp) (.slice ax n cx) (.slice at' n ct) ini kA X L bits wx (HSP.out.ext hx) (HLI.out.ext hx) (HIN.out.ext hx) (by rw [HXN.out]; exact HGO2.out)
  rw [HXN.out] at HLA
  have g0 := blk_cell HG2.out (i := 0) rfl
  have g1 := blk_cell HG2.out (i := 1) rfl
  have g2 := blk_cell HG2.out (i := 2) rfl
  have g3 := blk_cell HG2.out (i := 3) rfl
  have g4 := blk_cell HG2.out (i := 4) rfl
  clear d0 d1 d2 d3 hm hX hE1 hsp hli hin hgo hfi hs1 hxl hini hkA hbits hn hx2 HGO HFI HEX HB
  go_upto_region 2 with fail
  obtain ⟨GB, hGB⟩ : ∃ x, w1.heap.size = x := ⟨_, rfl⟩
  rw [hGB] at HG2 g0 g1 g2 g3 g4 ⊢
  clear hGB
  generalize w1.alloc (Obj.cells #[.slice asp n csp, .int .i64 (ini : Int), .slice ax n cx, .slice at' n ct, .int .i64 (kA : Int)] 40) = W2 at *
  go_wp2_with fail
  refine (HLA.out _ HX2.out).mono ?_
  clear g0 g1 g2 g3 g4
  rintro e w3 ⟨⟨st, lp, a1, c1, a2, c2, rfl, hr1, hr2, -, hlt, ⟨hl1, hl2⟩, hfm⟩ | ⟨rfl, hno⟩, hE3⟩
  · have HNH := Lib.hid (HFI2.out.1 hfm)
    have hx3 := ext_al (Ext.refl w3) (Obj.cells #[.slice a1 st.length c1, .slice a2 lp.length c2] 55)
    have HX3 := Lib.hid (hE3.trans hx3)
    have BL := Lib.hid (blk_new w3 (Obj.cells #[.slice a1 st.length c1, .slice a2 lp.length c2] 55))
    obtain ⟨_, _, e1, hw1⟩ := hr1
    simp only [Value.slice.injEq] at e1
    obtain ⟨rfl, -, rfl⟩ := e1
    obtain ⟨_, _, e2, hw2⟩ := hr2
    simp only [Value.slice.injEq] at e2
    obtain ⟨rfl, -, rfl⟩ := e2
    have HW1 := Lib.hid (hw1.ext hx3)
    have HW2 := Lib.hid (hw2.ext hx3)
    have HLT := Lib.hid hlt
    have HEF := Lib.hid (HE1.out.trans (HX2.out.trans HX3.out))
    have HSP3 := Lib.hid (HSP.out.ext (HX2.out.trans HX3.out))
    have HG3 := Lib.hid (blk_ext HG2.out HX3.out)
    have HR3 := Lib.hid (blk_ext HR1.out (HX2.out.trans HX3.out))
    clear hfm hx3 hE3 hw1 hw2 hlt HLA HG2 HX3 HSP
    go_upto_region 5 with fail
    obtain ⟨LB, hLB⟩ : ∃ x, w3.heap.size = x := ⟨_, rfl⟩
    rw [hLB] at BL ⊢
    clear hLB
    generalize w3.alloc (Obj.cells #[.slice a1 st.length c1, .slice a2 lp.length c2] 55) = W3 at *
    go_upto_region 7 with fail
    have hx4 := ext_al (Ext.refl W3) (Obj.cells #[.bool false, .slice none 0 0, .slice none 0 0] 57)
    have HX4 := Lib.hid hx4
    have hv4 : VBox W3.heap.size W3 (W3.alloc (Obj.cells #[.bool false, .slice none 0 0, .slice none 0 0] 57)) (.slice none 0 0) (.slice none 0 0) := ⟨blk_new W3 _, hx4, Nat.le_refl _⟩
    have HV4 := Lib.hid hv4
    have r0 := blk_cell (blk_ext BL.out hx4) (i := 0) rfl
    have r1 := blk_cell (blk_ext BL.out hx4) (i := 1) rfl
    clear hx4 hv4
    go_upto_region 8 with fail
    obtain ⟨V, hV⟩ : ∃ x, W3.heap.size = x := ⟨_, rfl⟩
    have HVS := Lib.hid hV
    rw [hV] at HV4 ⊢
    clear hV
    generalize W3.alloc (Obj.cells #[.bool false, .slice none 0 0, .slice none 0 0] 57) = W4 at *
    go_wp2_with fail
    clear r0 r1
    go_loopg [32] st.length (fun g x wr => ∃ (i : Nat) (a : Option Addr) (c : Nat) (xs : List Value), g + i = st.length ∧ x = .int .i64 (i : Int) ∧ wr.ownsRow (V + 1) 3 1 (.slice a i c) i xs ∧ VBox V W3 wr (.slice a i c) (.slice none 0 0))
    case atStart => exact ⟨0, none, 0, [], by omega, by go_num, World.ownsRow_nil _ _ _ _, HV4.out⟩
    case round =>
      obtain ⟨i, a, c, xs, hgi, rfl, ho, hv⟩ := hrel
      have HGI := Lib.hid hgi
      have HO := Lib.hid ho
      have HV := Lib.hid hv
      clear hgi ho hv
      by_cases hi : i < st.length
      · have hr := HW1.out
        obtain ⟨bI, oI, i1, i2⟩ := row_cells (f := fun x : Nat => Value.int .i64 (x : Int)) hr
        obtain rfl := i1 (by omega)
        have ci := i2 i hi
        have hci := hr.le
        have hcm := hr.max
        have hqn := HLT.out st[i] (by simp)
        generalize st[i] = q at *
        replace ci := (World.cell?_of_block (HV.out.e.block bI (World.block_lt_of_cell? _ _ ci))).trans ci
        obtain ⟨hsc, hsm, bS, oS, s1, s2⟩ := spots_cells HSP3.out
        obtain rfl := s1 (by have := HXN.out; omega)
        have cS := (s2 q (by have := HXN.out; omega)).1
        obtain ⟨sv, hsv⟩ : ∃ x, (X[q]'(by have := HXN.out; omega)).1 = x := ⟨_, rfl⟩
        rw [hsv] at cS
        replace cS := (World.cell?_of_block (HV.out.e.block bS (World.block_lt_of_cell? _ _ cS))).trans cS
        have hgb := blk_ext HG3.out HV.out.e
        have g0 := blk_cell hgb (i := 0) rfl
        have v1 := blk_cell HV.out.blk (i := 1) rfl
        have v2 := blk_cell HV.out.blk (i := 2) rfl
        have hVw := blk_lt HV.out.blk
        have HAL := Lib.hid (show Ext wr (wr.alloc (Obj.cells #[.int .i64 sv] 3)).drew from Below.drew (ext_al (Ext.refl _) _))
        have HOA := Lib.hid (own_ext HO.out HAL.out)
        have hvA := (HV.out.ext HAL.out).blk
        have v1A := blk_cell hvA (i := 1) rfl
        have hiI : (i : Int) < (st.length : Int) := by omega
        have hi0 : (0 : Int) ≤ (i : Int) := by omega
        have hqI : (q : Int) < (n : Int) := by omega
        have hq0 : (0 : Int) ≤ (q : Int) := by omega
        unfold maxLen at hcm hsm
        clear hr i1 i2 s2 hsv hgb hvA
        go_upto_region 11 with fail
        go_region_law (refine step_append rfl rfl Tryd.slIntsG (V + 1) (by rfl) HOA.out (by rfl) ((Row.oneG _ _ _ _ rfl).ext (Below.drew (Ext.refl _))) (one_int _) (by unfold maxLen; omega) (by omega) (by simp; omega) ?_
                       intro v8 w8 hown8 hg8 hb8 _
                       obtain ⟨a8, c8, rfl, _⟩ := id hown8.row
                       have hv8 := (HV.out.ext HAL.out).grown HOA.out hg8
                       have c81 := blk_cell hv8.blk (i := 1) rfl
                       have f81 := blk_free hv8.blk 1
                       have HO8 := Lib.hid (own_setCell hown8 (p := ⟨V, 1, none⟩) (.slice a8 (i + 1) c8) (fun e => by have h : V + 1 ≤ V := (hown8.lt _ e).1; omega))
                       have HV8 := Lib.hid (hv8.set1 (.slice a8 (i + 1) c8))
                       clear hown8 hg8 hb8 hv8)
        all_goals
          go_wp2_with fail
          go_roundg (gk - 1)
          case measure => have := HGI.out; omega
          case rel => exact ⟨i + 1, a8, c8, _, by have := HGI.out; omega, by go_num, HO8.out, HV8.out⟩
      · obtain rfl : i = st.length := by have := HGI.out; omega
        have hiI : ¬ (st.length : Int) < (st.length : Int) := by omega
        have hlb := blk_ext BL.out (HX4.out.trans (Ext.refl _))
        have hL := blk_ext BL.out HV.out.e
        have r1 := blk_cell hL (i := 1) rfl
        clear hlb hL
        go_upto_region 13 with fail
        obtain ⟨wo, rfl⟩ : ∃ wo : World, wo = wr := ⟨_, rfl⟩
        obtain ⟨av1, rfl⟩ : ∃ x : Option Addr, x = a := ⟨_, rfl⟩
        obtain ⟨cv1, rfl⟩ : ∃ x : Nat, x = c := ⟨_, rfl⟩
        have HV5 := HV
        go_wp2_with fail
        clear r1 HO HV HGI
        go_loopg [53] lp.length (fun g x wr => ∃ (i : Nat) (a : Option Addr) (c : Nat) (xs : List Value), g + i = lp.length ∧ x = .int .i64 (i : Int) ∧ wr.ownsRow (V + 1) 3 1 (.slice a i c) i xs ∧ VBox V W3 wr (.slice av1 st.length cv1) (.slice a i c))
        case atStart => exact ⟨0, none, 0, [], by omega, by go_num, World.ownsRow_nil _ _ _ _, HV5.out⟩
        case round =>
          obtain ⟨i, a, c, xs, hgi, rfl, ho, hv⟩ := hrel
          have HGI := Lib.hid hgi
          have HO := Lib.hid ho
          have HV := Lib.hid hv
          clear hgi ho hv HV5
          by_cases hi : i < lp.length
          · have hr := HW2.out
            obtain ⟨bI, oI, i1, i2⟩ := row_cells (f := fun x : Nat => Value.int .i64 (x : Int)) hr
            obtain rfl := i1 (by omega)
            have ci := i2 i hi
            have hci := hr.le
            have hcm := hr.max
            have hqn := HLT.out lp[i] (by simp)
            generalize lp[i] = q at *
            replace ci := (World.cell?_of_block (HV.out.e.block bI (World.block_lt_of_cell? _ _ ci))).trans ci
            obtain ⟨hsc, hsm, bS, oS, s1, s2⟩ := spots_cells HSP3.out
            obtain rfl := s1 (by have := HXN.out; omega)
            have cS := (s2 q (by have := HXN.out; omega)).1
            obtain ⟨sv, hsv⟩ : ∃ x, (X[q]'(by have := HXN.out; omega)).1 = x := ⟨_, rfl⟩
            rw [hsv] at cS
            replace cS := (World.cell?_of_block (HV.out.e.block bS (World.block_lt_of_cell? _ _ cS))).trans cS
            have hgb := blk_ext HG3.out HV.out.e
            have g0 := blk_cell hgb (i := 0) rfl
            have v1 := blk_cell HV.out.blk (i := 1) rfl
            have v2 := blk_cell HV.out.blk (i := 2) rfl
            have hVw := blk_lt HV.out.blk
            have HAL := Lib.hid (show Ext wr (wr.alloc (Obj.cells #[.int .i64 sv] 3)).drew from Below.drew (ext_al (Ext.refl _) _))
            have HOA := Lib.hid (own_ext HO.out HAL.out)
            have hvA := (HV.out.ext HAL.out).blk
            have v1A := blk_cell hvA (i := 1) rfl
            have hiI : (i : Int) < (lp.length : Int) := by omega
            have hi0 : (0 : Int) ≤ (i : Int) := by omega
            have hqI : (q : Int) < (n : Int) := by omega
            have hq0 : (0 : Int) ≤ (q : Int) := by omega
            unfold maxLen at hcm hsm
            clear hr i1 i2 s2 hsv hgb hvA
            go_upto_region 16 with fail
            go_region_law (refine step_append rfl rfl Tryd.slIntsG (V + 1) (by rfl) HOA.out (by rfl) ((Row.oneG _ _ _ _ rfl).ext (Below.drew (Ext.refl _))) (one_int _) (by unfold maxLen; omega) (by omega) (by simp; omega) ?_
                           intro v8 w8 hown8 hg8 hb8 _
                           obtain ⟨a8, c8, rfl, _⟩ := id hown8.row
                           have hv8 := (HV.out.ext HAL.out).grown HOA.out hg8
                           have c81 := blk_cell hv8.blk (i := 2) rfl
                           have f81 := blk_free hv8.blk 2
                           have HO8 := Lib.hid (own_setCell hown8 (p := ⟨V, 2, none⟩) (.slice a8 (i + 1) c8) (fun e => by have h : V + 1 ≤ V := (hown8.lt _ e).1; omega))
                           have HV8 := Lib.hid (hv8.set2 (.slice a8 (i + 1) c8))
                           clear hown8 hg8 hb8 hv8)
            all_goals
              go_wp2_with fail
              go_roundg (gk - 1)
              case measure => have := HGI.out; omega
              case rel => exact ⟨i + 1, a8, c8, _, by have := HGI.out; omega, by go_num, HO8.out, HV8.out⟩
          · obtain rfl : i = lp.length := by have := HGI.out; omega
            have hiI : ¬ (lp.length : Int) < (lp.length : Int) := by omega
            have v0 := blk_cell HV.out.blk (i := 0) rfl
            have v1 := blk_cell HV.out.blk (i := 1) rfl
            have v2 := blk_cell HV.out.blk (i := 2) rfl
            have hbr := blk_ext HR3.out HV.out.e
            have r0 := blk_cell hbr (i := 0) rfl
            have r1 := blk_cell hbr (i := 1) rfl
            have r2 := blk_cell hbr (i := 2) rfl
            have f0 := blk_free hbr 0
            have f1 := blk_free hbr 1
            have f2 := blk_free hbr 2
            have HXF := Lib.hid (ext_st (ext_st (ext_st (HEF.out.trans HV.out.e) (p := ⟨w.heap.size + 1, 0, none⟩) (Nat.le_succ _) (.bool false)) (p := ⟨w.heap.size + 1, 1, none⟩) (Nat.le_succ _) (.slice av1 st.length cv1)) (p := ⟨w.heap.size + 1, 2, none⟩) (Nat.le_succ _) (.slice a lp.length c))
            clear hbr
            go_wp2
            refine bodyPost_ret (v := .tuple #[.agg #[.bool false, .slice av1 st.length cv1, .slice a lp.length c], .int .i64 0]) (by simp [results, Tryd.results12, go_sem, r0, r1, r2]) rfl ⟨false, av1, st.length, cv1, a, lp.length, c, rfl, by simp [HNH.out], HXF.out⟩
  · have HNH := Lib.hid (show HoldsR m P t from Classical.byContradiction fun hc => by
      obtain ⟨mm, h⟩ := HFI2.out.2 hc
      exact hno mm h)
    have hx3 := ext_al (Ext.refl w3) (Obj.cells #[.slice none 0 0, .slice none 0 0] 55)
    have hbr := blk_ext HR1.out (HX2.out.trans (hE3.trans hx3))
    have r0 := blk_cell hbr (i := 0) rfl
    have r1 := blk_cell hbr (i := 1) rfl
    have r2 := blk_cell hbr (i := 2) rfl
    have f0 := blk_free hbr 0
    have f1 := blk_free hbr 1
    have f2 := blk_free hbr 2
    have HXF := Lib.hid (ext_st (ext_st (ext_st (HE1.out.trans (HX2.out.trans (hE3.trans hx3))) (p := ⟨w.heap.size + 1, 0, none⟩) (Nat.le_succ _) (.bool true)) (p := ⟨w.heap.size + 1, 1, none⟩) (Nat.le_succ _) (.slice none 0 0)) (p := ⟨w.heap.size + 1, 2, none⟩) (Nat.le_succ _) (.slice none 0 0))
    clear hno hE3 hx3 hbr HLA HFI2 HG2
    go_wp2
    refine bodyPost_ret (v := .tuple #[.agg #[.bool true, .slice none 0 0, .slice none 0 0], .int .i64 0]) (by simp [results, Tryd.results12, go_sem, r0, r1, r2]) rfl ⟨true, none, 0, 0, none, 0, 0, rfl, by simp [HNH.out], HXF.out⟩

end Go.Proofs.YtbmimdnpchldlaaDoor
