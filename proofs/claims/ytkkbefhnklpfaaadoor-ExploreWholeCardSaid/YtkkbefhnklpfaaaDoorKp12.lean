/- Several texts in one: ExA; SetS; FmJ; PrI; Visit; Reached; RowC. No condition. -/
import Derived.Test.YtkkbefhnklpfaaaDoorKp11
import Derived.Deep.DeepCutAuto
import Derived.Deep.RegionLaw
import Derived.Test.YtkkbefhnklpfaaaDoorKp10
import Derived.Test.YtkkbefhnklpfaaaDoorKp3
import Derived.Test.YtkkbefhnklpfaaaDoorKp9
import Derived.Test.YtkkbefhnklpfaaaDoorKp8
import Derived.Deep.RegionHeld3
import Derived.BigQuiet
import Derived.Test.YtkkbefhnklpfaaaDoorKp1
import Derived.WalkSmall
namespace Go.Proofs.YtkkbefhnklpfaaaDoor
open Go.RowKit

set_option maxRecDepth 100000 in
set_option maxHeartbeats 16000000 in
theorem explore_any (vv rv pv fv : Value) (m : Md) (P : List Tm) (t : Tm) (w : World) (h : IsTask w vv rv pv fv m P t) (ht : Tab w) (hk : TkOk m P t) (C : Nat) (hC : countL m.vars = (C : Int)) (hCN : C * 2 ^ cntA t.flat ≤ 20000) :
    Calls Tryd.prog 22 #[.agg #[vv, rv, pv, fv]] w (ExplR m P t w) := by
  have HBE := Lib.hid fun wx (hx : Ext w wx) => (show Calls Tryd.prog 15 #[.agg #[vv, rv, pv, fv]] wx fun e w' => ∃ v, e = .returned (.tuple #[v, .int .i64 0]) ∧
      w'.ownsRow wx.heap.size 59 2 v (iX m P t).length ((iX m P t).flatMap spc) ∧ Ext wx w' from begin_any vv rv pv fv m P t wx (h.ext hx) (ht.ext hx) hk)
  have HPL := Lib.hid fun wx (hx : Ext w wx) => places_any fv t.flat (P.length : Int) t wx (h.fo.ext hx) (ht.ext hx) hk.ff
  have HPN := Lib.hid (plL_len t.flat)
  have hc6 := hk.ff.cnt
  have HLE := Lib.hid fun (n : Int) wx (hx : Ext w wx) (hn : 0 ≤ n ∧ n < countL m.vars) => sletter_any vv rv pv m P n wx (h.md.ext hx) (ht.ext hx) hk.ok (h.pr.ext hx) hk.pk hn.1 hn.2
  have HLL := Lib.hid fun n => letS_len P (valsL m.vars n)
  have HME := Lib.hid fun (vl : Value) (n : Int) (c : Nat) wx (hx : Ext w wx) (hL : Bools wx vl (letS P (valsL m.vars n))) (hc : c < 2 ^ cntA t.flat) => (show Calls Tryd.prog 43 #[fv, vl, .int .i64 (c : Int)] wx fun e w' => e = .returned (.tuple #[.int .i64 (sX m P t (n, (c : Int))), .int .i64 0]) ∧ Ext wx w' from
    meets_any fv t.flat t vl (letS P (valsL m.vars n)) c wx (h.fo.ext hx) (ht.ext hx) (by rw [letS_len]; exact hk.ff) hL hc)
  have HBH := Lib.hid fun (n : Int) (c : Nat) wx (hx : Ext w wx) (hn : 0 ≤ n ∧ n < countL m.vars) (hc : c < 2 ^ cntA t.flat) => (show Calls Tryd.prog 21 #[.agg #[vv, rv, pv, fv], .agg #[.int .i64 n, .int .i64 (c : Int)]] wx fun e w' => ∃ v, e = .returned (.tuple #[v, .int .i64 0]) ∧
      w'.ownsRow wx.heap.size 59 2 v (bX m P t (n, (c : Int))).length ((bX m P t (n, (c : Int))).flatMap spc) ∧ Ext wx w' from pbehind_any vv rv pv fv m P t n c wx (h.ext hx) (ht.ext hx) hk hn.1 hn.2 hc)
  have HIN := Lib.hid (iX_nodup m P t)
  have HIO := Lib.hid (iX_ok hk)
  have HBO := Lib.hid fun x (hx : oX m t x) => bX_ok hk hx
  have HBN := Lib.hid fun x => bX_len hk (P := P) x
  unfold ExplR
  unfold oX at HIO HBO ⊢
  rw [hC] at HLE HBH HIO HBO ⊢
  obtain ⟨N, hN⟩ : ∃ x, 2 ^ cntA t.flat = x := ⟨_, rfl⟩
  rw [hN] at hCN HME HBH HIO HBO ⊢
  obtain ⟨k, hk6⟩ : ∃ x, cntA t.flat = x := ⟨_, rfl⟩
  rw [hk6] at HPN hc6 ⊢
  obtain ⟨I, hI⟩ : ∃ x, iX m P t = x := ⟨_, rfl⟩
  rw [hI] at HBE HIN HIO ⊢
  obtain ⟨BF, hBF⟩ : ∃ x, bX m P t = x := ⟨_, rfl⟩
  rw [hBF] at HBH HBO HBN ⊢
  obtain ⟨SF, hSF⟩ : ∃ x, sX m P t = x := ⟨_, rfl⟩
  rw [hSF] at HME ⊢
  obtain ⟨LT, hLT⟩ : ∃ LT : Int → List Bool, (fun n => letS P (valsL m.vars n)) = LT := ⟨_, rfl⟩
  have hLTa : ∀ n, letS P (valsL m.vars n) = LT n := fun n => by rw [← hLT]
  simp only [hLTa] at HLE HME HLL
  obtain ⟨av, cv, ar, cr, ap, cp, af, nf, cf, rfl, rfl, rfl, rfl⟩ := h.val
  have HCN := Lib.hid hCN
  have hIl : I.length ≤ 20000 := Nat.le_trans (pairs_bound C N (X := I) HIN.out (fun x hx => HIO.out x hx)) hCN
  have hp6 := hk.pk.six
  clear h ht hk hC hCN hN hk6 hI hBF hSF hLT hLTa
  generalize m.vars.length = nv at *
  generalize m.rules.length = nr at *
  generalize P.length = np at *
  have hb := blk_new w (Obj.cells #[.slice av nv cv, .slice ar nr cr, .slice ap np cp, .slice af nf cf] 49)
  have hx := ext_al (Ext.refl (w.alloc (Obj.cells #[.slice av nv cv, .slice ar nr cr, .slice ap np cp, .slice af nf cf] 49))) (Obj.cells #[.slice none 0 0, .int .i64 0, .slice none 0 0, .slice none 0 0, .int .i64 0] 70)
  have hb2 := blk_new (w.alloc (Obj.cells #[.slice av nv cv, .slice ar nr cr, .slice ap np cp, .slice af nf cf] 49)) (Obj.cells #[.slice none 0 0, .int .i64 0, .slice none 0 0, .slice none 0 0, .int .i64 0] 70)
  rw [World.size_alloc] at hb2
  have HE := Lib.hid ((ext_al (Ext.refl w) (Obj.cells #[.slice av nv cv, .slice ar nr cr, .slice ap np cp, .slice af nf cf] 49)).trans hx)
  have HB := Lib.hid (blk_ext hb hx)
  have HR := Lib.hid hb2
  have d0 := blk_cell HB.out (i := 0) rfl
  have d1 := blk_cell HB.out (i := 1) rfl
  have d2 := blk_cell HB.out (i := 2) rfl
  have d3 := blk_cell HB.out (i := 3) rfl
  clear hb hx hb2
  go_enter Tryd.func22, Tryd.ntmps22
  go_wp2_with fail
  generalize (w.alloc (Obj.cells #[.slice av nv cv, .slice ar nr cr, .slice ap np cp, .slice af nf cf] 49)).alloc (Obj.cells #[.slice none 0 0, .int .i64 0, .slice none 0 0, .slice none 0 0, .int .i64 0] 70) = W0 at *
  refine (HBE.out _ HE.out).mono ?_
  rintro e w1 ⟨v1, rfl, ho1, hE1⟩
  obtain ⟨a1, c1, rfl, _⟩ := id ho1.row
  have HO1 := Lib.hid ho1
  have HX1 := Lib.hid hE1
  have hb1 := blk_ext HB.out hE1
  have d2 := blk_cell hb1 (i := 2) rfl
  have d3 := blk_cell hb1 (i := 3) rfl
  clear ho1 hE1 hb1 d0 d1 HBE
  go_wp2_with fail
  refine (HPL.out _ (HE.out.trans HX1.out)).mono ?_
  rintro e w2 ⟨a2, c2, rfl, ho2, hE2⟩
  rw [HPN.out]
  have HX2 := Lib.hid (HX1.out.trans hE2)
  have HO2 := Lib.hid (own_ext HO1.out hE2)
  have HAB := Lib.hid (ABox.start w2 (I.length : Int) (k : Int) w2.heap.size rfl)
  clear hE2 ho2 d2 d3 HPL HO1 HX1 HPN
  have hmm := @run_makeMap Tryd.prog
  go_wp2_with fail
  have HMM := Lib.hid (Nat.le_refl w2.heap.size)
  generalize (w2.alloc (Obj.map #[] 0)).alloc (Obj.cells #[.slice none 0 0, .int .i64 (I.length : Int), .slice none 0 0, .slice none 0 0, .int .i64 (k : Int), .map (some w2.heap.size)] 102) = W3 at *
  generalize hMs : w2.heap.size = M at *
  have HMS := Lib.hid hMs
  clear hMs
  go_loopg [59] I.length (fun g x wr => ∃ (i : Nat) (τ : Nat → Nat) (sp : Value), g + i = I.length ∧ x = .int .i64 (i : Int) ∧ ABox τ (M + 2) (M + 1) M w2 wr sp (.slice none 0 0) (.slice none 0 0) (I.length : Int) (k : Int) (I.take i) [] [])
  case atStart => exact ⟨0, _, _, by omega, by go_num, HAB.out⟩
  case round =>
    obtain ⟨i, τ, sp, hgi, rfl, hA⟩ := hrel
    have HGI := Lib.hid hgi
    have HA := Lib.hid hA
    clear hgi HAB
    by_cases hi : i < I.length
    · obtain ⟨_, _, e1, hr⟩ := id (own_ext HO2.out hA.e).row
      simp only [Value.slice.injEq] at e1
      obtain ⟨rfl, -, rfl⟩ := e1
      obtain ⟨bS, oS, s1, s2⟩ := spotsX_at hr
      obtain rfl := s1 (by omega)
      obtain ⟨c0, c1⟩ := s2 i hi
      have hcap := hr.le
      have HNI := Lib.hid (show I[i] ∉ I.take i from fun hm => by
        obtain ⟨j, hj, e⟩ := List.mem_iff_getElem.1 hm
        rw [List.length_take] at hj
        rw [List.getElem_take] at e
        have := nodup_at HIN.out (i := j) (j := i) (by rw [List.getElem?_eq_getElem (by omega), e]) (List.getElem?_eq_getElem hi)
        omega)
      have HTK := Lib.hid (show I.take (i + 1) = I.take i ++ [I[i]] from List.take_succ_eq_append_getElem hi)
      have HLT := Lib.hid (show (I.take i).length < 20000 from by
        rw [List.length_take]
        omega)
      have hiI : (i : Int) < (I.length : Int) := by omega
      have hi0 : (0 : Int) ≤ (i : Int) := by omega
      have hx3 := ext_al (Ext.refl wr) (Obj.cells #[.int .i64 I[i].1, .int .i64 I[i].2] 59)
      have hb3 := blk_new wr (Obj.cells #[.int .i64 I[i].1, .int .i64 I[i].2] 59)
      have HPC := Lib.hid (place_any τ (M + 2) (M + 1) M w2 _ sp _ _ _ _ _ _ _ I[i] (hA.ext hx3) (.inl HLT.out))
      have b0 := blk_cell hb3 (i := 0) rfl
      have b1 := blk_cell hb3 (i := 1) rfl
      generalize I[i] = s at *
      clear hA hr s1 s2 hx3 hb3
      go_wp2_with fail
      refine HPC.out.mono ?_
      rintro e w5 ⟨n, S', sp', τ', rfl, hn, hS, hA5, -, -, -⟩
      obtain rfl : S' = I.take (i + 1) := by
        rcases hS with rfl | ⟨_, rfl, _⟩
        · exact absurd (List.mem_of_getElem? hn) HNI.out
        · exact HTK.out.symm
      have HA5 := Lib.hid hA5
      clear hn hS hA5 c0 c1 b0 b1
      go_wp2_with fail
      go_roundg (gk - 1)
      case measure => have := HGI.out; omega
      case rel => exact ⟨i + 1, _, _, by have := HGI.out; omega, by go_num, HA5.out⟩
    · obtain rfl : i = I.length := by have := HGI.out; omega
      have hiI : ¬ (I.length : Int) < (I.length : Int) := by omega
      rw [List.take_length] at hA
      have HAI := Lib.hid hA
      have HX0 := Lib.hid (show XInv BF (fun x => 0 ≤ x.1 ∧ x.1 < (C : Int) ∧ 0 ≤ x.2 ∧ x.2 < (N : Int)) I I [] [] 0 from XInv.start HIN.out HIO.out)
      clear hA HA HGI
      go_wp2_with fail
      go_loopg [11] 20001 (fun g x wr => ∃ (i : Nat) (τ : Nat → Nat) (sp nx st : Value) (X : List Sp2) (L : List (List Int)), g + i = 20001 ∧ x = .int .i64 (i : Int) ∧ L.length = i ∧ ABox τ (M + 2) (M + 1) M w2 wr sp nx st (I.length : Int) (k : Int) X L ((X.take i).map SF) ∧ XInv BF (fun x => 0 ≤ x.1 ∧ x.1 < (C : Int) ∧ 0 ≤ x.2 ∧ x.2 < (N : Int)) I X L [] 0)
      case atStart => exact ⟨0, _, _, _, _, I, [], by omega, by go_num, rfl, HAI.out, HX0.out⟩
      case round =>
        obtain ⟨i, τ, sp, nx, st, X, L, hgi, rfl, hLi, hA, hI⟩ := hrel
        subst hLi
        obtain ⟨T, hTe⟩ : ∃ T, (X.take L.length).map SF = T := ⟨_, rfl⟩
        rw [hTe] at hA
        have HTE := Lib.hid hTe
        have HGI := Lib.hid hgi
        have HA := Lib.hid hA
        have HXI := Lib.hid hI
        have hXl : X.length ≤ 20000 := Nat.le_trans (pairs_bound C N (X := X) hI.nd (fun x hx => hI.ok x hx)) HCN.out
        have hLX := hI.le
        obtain ⟨asp, csp, rfl, hrsp⟩ := hA.m.sp.own.row
        have a0 := blk_cell hA.a (i := 0) rfl
        clear HAI HX0 hgi
        by_cases hi : L.length < X.length
        · obtain ⟨bS, oS, s1, s2⟩ := spotsX_at hrsp
          obtain rfl := s1 (by omega)
          obtain ⟨c0, c1⟩ := s2 L.length hi
          have hxo := hI.ok X[L.length] (by simp)
          have HXG := Lib.hid (List.getElem?_eq_getElem hi)
          have hcap := hrsp.le
          generalize X[L.length] = x at *
          obtain ⟨x1, x2⟩ := x
          obtain ⟨c, rfl⟩ : ∃ c : Nat, x2 = (c : Int) := ⟨x2.toNat, by have := hxo.2.2.1; simp at this; omega⟩
          have hx1 : 0 ≤ x1 ∧ x1 < (C : Int) := ⟨hxo.1, hxo.2.1⟩
          have hcN : c < N := by have := hxo.2.2.2; simp at this; omega
          have HXO := Lib.hid hxo
          have hW2 := HX2.out.trans hA.e
          have hbt := blk_ext HB.out hW2
          have hx3 := ext_al (Ext.refl wr) (Obj.cells #[.int .i64 x1, .int .i64 (c : Int)] 59)
          have hb3 := blk_new wr (Obj.cells #[.int .i64 x1, .int .i64 (c : Int)] 59)
          have HBT := Lib.hid (blk_ext hbt hx3)
          have HB3 := Lib.hid hb3
          have HX3 := Lib.hid (HE.out.trans (hW2.trans hx3))
          have HA3 := Lib.hid (hA.ext hx3)
          have d0 := blk_cell HBT.out (i := 0) rfl
          have d1 := blk_cell HBT.out (i := 1) rfl
          have d2 := blk_cell HBT.out (i := 2) rfl
          have b0 := blk_cell HB3.out (i := 0) rfl
          have hiI : (L.length : Int) < (X.length : Int) := by omega
          have hi0 : (0 : Int) ≤ (L.length : Int) := by omega
          obtain ⟨nL, hnL⟩ : ∃ x, L.length = x := ⟨_, rfl⟩
          obtain ⟨nX, hnX⟩ : ∃ x, X.length = x := ⟨_, rfl⟩
          rw [hnL] at hi hiI hi0 c0 c1 hLX
          rw [hnX] at hi hiI hcap hLX hXl a0
          have HNL := Lib.hid hnL
          have HNX := Lib.hid hnX
          clear hxo hW2 hbt hx3 hb3 hrsp s1 s2 hI hA hTe
          go_wp2_with fail
          generalize wr.alloc (Obj.cells #[.int .i64 x1, .int .i64 (c : Int)] 59) = W3 at *
          refine (HLE.out x1 _ HX3.out hx1).mono ?_
          rintro e w4 ⟨v4, rfl, ho4, hE4⟩
          obtain ⟨a4, c4, rfl, _⟩ := id ho4.row
          have HBO4 := Lib.hid (show Bools w4 (.slice a4 np c4) (LT x1) from by
            have h := ho4.reads
            unfold Bools
            rw [HLL.out]
            exact h)
          have HX4 := Lib.hid (HX3.out.trans hE4)
          have HA4 := Lib.hid (HA3.out.ext hE4)
          have HBT4 := Lib.hid (blk_ext HBT.out hE4)
          have HB4 := Lib.hid (blk_ext HB3.out hE4)
          have d3 := blk_cell HBT4.out (i := 3) rfl
          have b1 := blk_cell HB4.out (i := 1) rfl
          clear ho4 hE4 a0 c0 c1 d0 d1 d2 b0 HX3 HA3 HBT HB3
          go_wp2_with fail
          refine (HME.out _ x1 c _ HX4.out HBO4.out hcN).mono ?_
          rintro e w5 ⟨rfl, hE5⟩
          have HX5 := Lib.hid (HX4.out.trans hE5)
          have HA5 := Lib.hid (HA4.out.ext hE5)
          have HBT5 := Lib.hid (blk_ext HBT4.out hE5)
          have HB5 := Lib.hid (blk_ext HB4.out hE5)
          have d0 := blk_cell HBT5.out (i := 0) rfl
          have d1 := blk_cell HBT5.out (i := 1) rfl
          have d2 := blk_cell HBT5.out (i := 2) rfl
          have e3 := blk_cell HBT5.out (i := 3) rfl
          have b0 := blk_cell HB5.out (i := 0) rfl
          have e1 := blk_cell HB5.out (i := 1) rfl
          clear hE5 d3 b1 HX4 HA4 HBT4 HB4 HBO4
          go_wp2_with fail
          refine (HBH.out x1 c _ HX5.out hx1 hcN).mono ?_
          rintro e w6 ⟨v6, rfl, ho6, hE6⟩
          obtain ⟨a6, c6, rfl, _⟩ := id ho6.row
          have hb768 := HBN.out (x1, (c : Int))
          obtain ⟨Y, hY⟩ : ∃ Y, BF (x1, (c : Int)) = Y := ⟨_, rfl⟩
          rw [hY] at ho6 hb768 ⊢
          have HY := Lib.hid hY
          have hA6 := (HA5.out.retag 8).ext hE6
          have ho8 := OwnT.fresh τ 8 ho6
          have HC0 := Lib.hid (OwnT.nil (tagAt τ w5.heap.size 8) 5 w6 (M + 2) 3 1)
          have HE8 := Lib.hid ho8.ent
          have HAI := Lib.hid hA6
          clear hE6 ho6 hY hA6 ho8 d0 d1 d2 e3 b0 e1 HX5 HA5 HBT5 HB5
          obtain ⟨H5, hH5⟩ : ∃ x, w5.heap.size = x := ⟨_, rfl⟩
          rw [hH5] at HE8 HC0 HAI
          clear hH5
          go_wp2_with fail
          obtain ⟨wo, rfl⟩ : ∃ wo : World, wo = wr := ⟨_, rfl⟩
          obtain ⟨G0, rfl⟩ : ∃ G0 : Nat, G0 = gk := ⟨_, rfl⟩
          go_loopg [112, 17] Y.length (fun g x y wq => ∃ (j : Nat) (τ' : Nat → Nat) (sp' : Value) (X' : List Sp2) (cur : List Int) (al : Option Addr) (cl : Nat), g + j = Y.length ∧ x = .int .i64 (j : Int) ∧ y = .slice al j cl ∧ cur.length = j ∧
            ABox τ' (M + 2) (M + 1) M w2 wq sp' nx st (I.length : Int) (k : Int) X' L T ∧ XInv BF (fun x => 0 ≤ x.1 ∧ x.1 < (C : Int) ∧ 0 ≤ x.2 ∧ x.2 < (N : Int)) I X' L cur j ∧ X'[L.length]? = some (x1, (c : Int)) ∧ X'.take L.length = X.take L.length ∧
            OwnT τ' 5 wq (M + 2) 3 1 (.slice al j cl) j (cur.map (.int .i64)) ∧ Ent τ' 8 wq (fun z => z.ownsRow H5 59 2 (.slice a6 Y.length c6) Y.length (Y.flatMap spc)))
          case atStart => exact ⟨0, _, _, X, [], none, 0, by omega, by go_num, rfl, rfl, HAI.out, HXI.out, HXG.out, rfl, HC0.out, HE8.out⟩
          case round =>
            obtain ⟨j, τ', sp', X', cur, al, cl, hgj, rfl, rfl, hcj, hA, hI, hx, hT, hO, hE⟩ := hrel
            have HGJ := Lib.hid hgj
            have HCJ := Lib.hid hcj
            have HXI' := Lib.hid hI
            have HXG' := Lib.hid hx
            have HTT := Lib.hid hT
            have HOO := Lib.hid hO
            have HAA := Lib.hid hA
            have HEE := Lib.hid hE
            clear hgj hcj hx hT HAI HC0 HE8
            by_cases hj : j < Y.length
            · obtain ⟨_, _, e1, hr⟩ := id hE.now.row
              simp only [Value.slice.injEq] at e1
              obtain ⟨rfl, -, rfl⟩ := e1
              obtain ⟨bS, oS, s1, s2⟩ := spotsX_at hr
              obtain rfl := s1 (by omega)
              obtain ⟨c0, c1⟩ := s2 j hj
              have hYj := List.getElem?_eq_getElem hj
              have hym := List.getElem_mem hj
              generalize Y[j] = y at *
              have hyo := HBO.out _ HXO.out y (by rw [HY.out]; exact hym)
              have HYO := Lib.hid hyo
              have HYJ := Lib.hid hYj
              have hx3 := ext_al (Ext.refl wr) (Obj.cells #[.int .i64 y.1, .int .i64 y.2] 59)
              have hb3 := blk_new wr (Obj.cells #[.int .i64 y.1, .int .i64 y.2] 59)
              have HPC := Lib.hid (place_any τ' (M + 2) (M + 1) M w2 _ sp' _ _ _ _ _ _ _ y (hA.ext hx3) (room hI HCN.out hyo))
              have b0 := blk_cell hb3 (i := 0) rfl
              have b1 := blk_cell hb3 (i := 1) rfl
              have HO3 := Lib.hid (hO.ext hx3)
              have HE3 := Lib.hid (hE.ext hx3)
              have hjI : (j : Int) < (Y.length : Int) := by omega
              have hj0 : (0 : Int) ≤ (j : Int) := by omega
              clear hr s1 s2 hx3 hb3 hyo hym hYj hI hA hO hE HAA HEE HOO
              go_wp2_with fail
              generalize wr.alloc (Obj.cells #[.int .i64 y.1, .int .i64 y.2] 59) = W7 at *
              refine HPC.out.mono ?_
              rintro e w7 ⟨n, S', sp7, τ7, rfl, hn, hS, hA7, ht7, hs7, hk7⟩
              obtain ⟨hI7, hx7, hT7⟩ := HXI'.out.put HXG'.out (by rw [HY.out]; exact HYJ.out) HYO.out hn hS
              have HA7 := Lib.hid hA7
              have HI7 := Lib.hid hI7
              have HX7 := Lib.hid hx7
              have HT7 := Lib.hid (hT7.trans HTT.out)
              have ho7 := HO3.out.placed (by omega) (by omega) ht7 hk7
              have HO7 := Lib.hid ho7
              have HE7 := Lib.hid (hk7 8 _ (by omega) (by omega) HE3.out)
              have hx8 := ext_al (Ext.refl w7) (Obj.cells #[.int .i64 (n : Int)] 3)
              have HX8 := Lib.hid hx8
              have HO8 := Lib.hid (ho7.ext hx8)
              have hsz := hA7.m.size
              clear hn hS hA7 ht7 hs7 hk7 hI7 hx7 hT7 ho7 hx8 c0 c1 b0 b1 HPC HO3 HE3
              go_wp2_with (at_builtin; go_must (refine wpl_append rfl rfl Tryd.slIntsG (M + 2) rfl HO8.out.own rfl (Row.oneG _ _ _ _ rfl) (one_int _) (by unfold maxLen; omega) (by omega) (by simp; omega) ?_))
              intro v9 w9 hown9 hg9 hb9 _
              obtain ⟨hA9, hO9, hk9⟩ := (HA7.out.ext HX8.out).app5 HO8.out hg9 hown9 (by rcases hb9 with h | h; exact .inl h; right; rw [h]; simp)
              obtain ⟨a9, c9, rfl, _⟩ := id hown9.row
              have HA9 := Lib.hid hA9
              have HO9 := Lib.hid hO9
              have HE9 := Lib.hid (hk9 _ (HE7.out.ext HX8.out))
              clear hown9 hg9 hb9 hA9 hO9 hk9 HO8
              go_wp2_with fail
              go_roundg (gk - 1)
              case measure => have := HGJ.out; omega
              case rel => exact ⟨j + 1, _, _, S', cur ++ [(n : Int)], a9, c9, by have := HGJ.out; omega, by go_num, rfl, by rw [List.length_append, HCJ.out]; rfl, HA9.out, HI7.out, HX7.out, HT7.out, by rw [List.map_append]; exact HO9.out, HE9.out⟩
            · obtain rfl : j = Y.length := by have := HGJ.out; omega
              have hjI : ¬ (Y.length : Int) < (Y.length : Int) := by omega
              have HRW := Lib.hid (HXI'.out.row HXG'.out (by rw [HY.out]))
              have HTK := Lib.hid (show (X'.take (nL + 1)).map SF = T ++ [SF (x1, (c : Int))] from by
                have hx' := HXG'.out
                rw [HNL.out] at hx'
                have hl := (List.getElem?_eq_some_iff.1 hx').1
                rw [List.take_add_one, hx', List.map_append, ← HNL.out, HTT.out, HTE.out]
                rfl)
              have hAt := hA.t53
              have HUN := Lib.hid (Ent.t55 (hO.ent.mono fun z hz => (show Ints z (.slice al Y.length cl) cur from by
                have h := hz.reads
                unfold Ints
                rw [HCJ.out]
                exact h)))
              obtain ⟨vs, h1, h2⟩ := hAt.m.nx
              obtain ⟨an, cn, rfl, hrn⟩ := id h1.own.row
              have hncap := hrn.le
              have a2 := blk_cell hA.a (i := 2) rfl
              have hx9 := ext_al (Ext.refl wr) (Obj.cells #[.slice al Y.length cl] 57)
              have HX9 := Lib.hid hx9
              have HN9 := Lib.hid (h1.ext hx9)
              have HN1 := Lib.hid h1
              have HN2 := Lib.hid h2
              have HAT := Lib.hid hAt
              have hsz := hA.m.size
              rw [HNL.out] at HN9 a2
              have hL20 : nL ≤ 20000 := by omega
              clear hI hA hO hE hAt h1 h2 hrn hx9 HAA HEE HOO
              go_wp2_with (at_builtin; go_must (refine wpl_append rfl rfl Tryd.slLists (M + 2) rfl HN9.out.own rfl (Row.oneG _ _ _ _ rfl) (by simp [Value.oneCell']) (by unfold maxLen; omega) (by omega) (by simp; omega) ?_))
              intro v10 w10 hown10 hg10 hb10 _
              obtain ⟨hb10', τ10, hA10⟩ := HAT.out.pushNx HX9.out HN1.out HN2.out HUN.out hown10 (by rw [HNL.out]) rfl (by rw [HNL.out]; exact hg10) (by rw [HNL.out]; rcases hb10 with h | h; exact .inl h; right; rw [h]; simp)
              obtain ⟨a10, c10, rfl, _⟩ := id hown10.row
              have c2' := blk_cell hb10' (i := 2) rfl
              have f2' := blk_free hb10' 2
              have HA10 := Lib.hid hA10
              clear hown10 hg10 hb10 hb10' hA10 HN1 HN2 HUN HN9 HAT a2
              go_upto_region 29 with fail
              generalize w10.setCell ⟨M + 1, 2, none⟩ (.slice a10 (nL + 1) c10) = W10 at *
              have HTL := Lib.hid (show T.length = nL from by
                rw [← HTE.out, List.length_map, List.length_take, HNX.out, HNL.out]
                omega)
              obtain ⟨at', ct, rfl, hrt⟩ := id HA10.out.m.st.own.row
              have htcap := hrt.le
              have a3 := blk_cell HA10.out.a (i := 3) rfl
              have hxA := ext_al (Ext.refl W10) (Obj.cells #[.int .i64 (SF (x1, (c : Int)))] 3)
              have HXA := Lib.hid hxA
              have hoA := HA10.out.m.st.own
              have hszA := HA10.out.m.size
              rw [HTL.out] at hoA a3 htcap
              have HOA := Lib.hid (own_ext hoA hxA)
              clear hrt hxA hoA c2' f2'
              go_wp2_with (at_builtin; go_must (refine wpl_append rfl rfl Tryd.slIntsG (M + 2) rfl HOA.out rfl (Row.oneG _ _ _ _ rfl) (one_int _) (by unfold maxLen; omega) (by omega) (by simp; omega) ?_))
              intro v11 w11 hown11 hg11 hb11 _
              obtain ⟨hb11', τ11, hA11⟩ := HA10.out.pushSt (x := SF (x1, (c : Int))) HXA.out hown11 (by rw [HTL.out]) rfl (by rw [HTL.out]; exact hg11) (by rw [HTL.out]; rcases hb11 with h | h; exact .inl h; right; rw [h]; simp)
              obtain ⟨a11, c11, rfl, _⟩ := id hown11.row
              have c3' := blk_cell hb11' (i := 3) rfl
              have f3' := blk_free hb11' 3
              have HA11 := Lib.hid hA11
              clear hown11 hg11 hb11 hb11' hA11 HOA a3
              go_wp2_with fail
              go_roundg (G0 - 1)
              case measure => have := HGI.out; have := HNL.out; omega
              case rel => exact ⟨nL + 1, _, _, _, _, X', L ++ [cur], by have := HGI.out; have := HNL.out; omega, by go_num, by rw [List.length_append, HNL.out]; rfl, by rw [HTK.out]; exact HA11.out, HRW.out⟩
        · have hLe : L.length = X.length := by omega
          have HDN := Lib.hid (hI.last hLe)
          have HTX := Lib.hid (show T = X.map SF from by rw [← hTe, hLe, List.take_length])
          have hiI : ¬ (L.length : Int) < (X.length : Int) := by omega
          obtain ⟨ax, cx, rfl, _⟩ : ∃ a c, nx = .slice a L.length c ∧ True := by
            obtain ⟨vs, h1, _⟩ := hA.m.nx
            obtain ⟨a, c, e, _⟩ := h1.own.row
            exact ⟨a, c, e, trivial⟩
          obtain ⟨at', ct, rfl, _⟩ := id hA.m.st.own.row
          have hW2 := HX2.out.trans hA.e
          have hR := blk_ext HR.out hW2
          have a1' := blk_cell hA.a (i := 1) rfl
          have a2' := blk_cell hA.a (i := 2) rfl
          have a3' := blk_cell hA.a (i := 3) rfl
          have a4' := blk_cell hA.a (i := 4) rfl
          have r0 := blk_cell hR (i := 0) rfl
          have r1 := blk_cell hR (i := 1) rfl
          have r2 := blk_cell hR (i := 2) rfl
          have r3 := blk_cell hR (i := 3) rfl
          have r4 := blk_cell hR (i := 4) rfl
          have f0 := blk_free hR 0
          have f1 := blk_free hR 1
          have f2 := blk_free hR 2
          have f3 := blk_free hR 3
          have f4 := blk_free hR 4
          have hRM : w.heap.size + 1 < M + 2 := by
            have h1 := blk_lt HR.out
            have h2 := HX2.out.size
            rw [HMS.out] at h2
            omega
          have HRM := Lib.hid hRM
          have HEW := Lib.hid (HE.out.trans hW2)
          clear hrsp hI hA hTe hW2 hR hLe hRM
          go_wp2_with fail
          refine bodyPost_ret (v := .tuple #[.agg #[.slice asp X.length csp, .int .i64 (I.length : Int), .slice ax L.length cx, .slice at' T.length ct, .int .i64 (k : Int)], .int .i64 0]) (by simp [results, Tryd.results22, go_sem, r0, r1, r2, r3, r4]) rfl ?_
          obtain rfl := HTX.out
          have hrm := HRM.out
          refine ⟨τ, _, _, _, rfl, X, L, GMem.base ((((((HA.out.m.low ?_ _).low ?_ _).low ?_ _).low ?_ _).low ?_ _)) (by omega), HDN.out, ext_st (ext_st (ext_st (ext_st (ext_st HEW.out ?_ _) ?_ _) ?_ _) ?_ _) ?_ _⟩
          all_goals first | exact hrm | exact Nat.le_succ _

end Go.Proofs.YtkkbefhnklpfaaaDoor

namespace Go.Proofs.YtkkbefhnklpfaaaDoor
open Go.RowKit

theorem not_isF {t : Tm} {p : Int} (h : IsF t.flat p t) (hs : t.size ≤ 50) : IsF (Tm.n1 10 0 t).flat p (Tm.n1 10 0 t) where
  ok := by
    have h1 := h.ok
    simp only [Tm.ok]
    exact ⟨by omega, by omega, by decide, h1⟩
  flat := rfl
  small := by simp only [Tm.size]; omega
  fit := by
    intro o ho
    simp only [Tm.flat, List.mem_cons] at ho
    rcases ho with rfl | ho
    · exact ⟨by decide, by decide, fun h => absurd h (by decide), fun _ => rfl⟩
    · exact h.fit o ho
  cnt := by
    have h1 := h.cnt
    have : cntA (Tm.n1 10 0 t).flat = cntA t.flat := by simp [Tm.flat, cntA, aheadB]
    omega
  p0 := h.p0
  p6 := h.p6
theorem not_cnt (t : Tm) : cntA (Tm.n1 10 0 t).flat = cntA t.flat := by simp [Tm.flat, cntA, aheadB]
theorem not_head (L : List Bool) (c : Nat) (t : Tm) : (tvT L c (.n1 10 0 t) 0).head?.getD false = !((tvT L c t 0).head?.getD false) := by simp [tvT, aheadB]

/-- Four slices. -/
structure Sl4 (x : Array Value) : Prop where
  e : ∃ a b c d a1 a2 a3 b1 b2 b3 c1 c2 c3 d1 d2 d3, x = #[a, b, c, d] ∧ a = .slice a1 a2 a3 ∧ b = .slice b1 b2 b3 ∧ c = .slice c1 c2 c3 ∧ d = .slice d1 d2 d3
theorem isT_S {w w' : World} {Q : Nat} {T : TypeId} {v : Value} {t : Tm} {x : Array Value} (h : IsT w v t) (hx : Sl4 x) (hQ : w.heap[Q]? = some (.cells x T (0, 0))) (hg : w.grownBy w' (some Q)) : IsT w' v t := by
  obtain ⟨a, c, rfl, hr⟩ := h
  obtain ⟨b, off, _, h2, h3⟩ := hr.lie
  have hp : 0 < t.flat.length := by rw [Tm.flat_len]; exact t.size_pos
  obtain ⟨o, r, hf⟩ : ∃ o r, t.flat = o :: r := by
    cases hf : t.flat with
    | nil => rw [hf] at hp; simp at hp
    | cons o r => exact ⟨o, r, rfl⟩
  have h0 : (t.flat.flatMap opc)[0]? = some (.int .i64 o.1) := by rw [hf]; simp [opc]
  have h4 := h3 0 _ h0
  obtain rfl := h2 (getElem?_pos h0)
  refine Reads.grown (show Reads w 2 _ t.flat.length (t.flat.flatMap opc) from ⟨_, _, rfl, hr⟩) hg (.inr (.inr fun e => ?_))
  simp [Value.ownBlock] at e
  subst e
  obtain ⟨a, b', c', d, a1, a2, a3, b1, b2, b3, c1, c2, c3, d1, d2, d3, rfl, rfl, rfl, rfl, rfl⟩ := hx.e
  simp only [World.cell?, hQ] at h4
  match off + 0, h4 with
  | 0, h4 => simp at h4
  | 1, h4 => simp at h4
  | 2, h4 => simp at h4
  | 3, h4 => simp at h4
  | k + 4, h4 => simp at h4

end Go.Proofs.YtkkbefhnklpfaaaDoor

namespace Go.Proofs.YtkkbefhnklpfaaaDoor
open Go.RowKit

/-- A formula over three propositions: at most so long, with at most so many ops that look ahead. -/
structure Fm (t : Tm) (m c : Nat) : Prop where
  ok : t.ok
  fit : ∀ o ∈ t.flat, FitOp 3 o
  size : t.size ≤ m
  cnt : cntA t.flat ≤ c
theorem Fm.isF {t : Tm} {m c : Nat} (h : Fm t m c) (hm : m ≤ 60) (hc : c ≤ 6) : IsF t.flat 3 t := ⟨h.ok, rfl, by have := h.size; omega, h.fit, by have := h.cnt; omega, by omega, by omega⟩
theorem Fm.one {t : Tm} {m c : Nat} (h : Fm t m c) (k : Int) (m' c' : Nat) (hk : (k = 10 ∧ c ≤ c') ∨ ((k = 14 ∨ k = 17 ∨ k = 18) ∧ c + 1 ≤ c')) (hm : m + 1 ≤ m') : Fm (.n1 k 0 t) m' c' := by
  have hk2 : k = 10 ∨ k = 14 ∨ k = 17 ∨ k = 18 := by omega
  refine ⟨⟨by omega, by omega, by unfold partsOf; rw [if_neg (by omega), if_pos (by omega)], h.ok⟩, ?_, by have := h.size; simp only [Tm.size]; omega, ?_⟩
  · intro o ho
    rcases List.mem_cons.1 ho with rfl | ho
    · exact ⟨by simp only; omega, by simp only; omega, fun h => by simp only at h; omega, fun _ => rfl⟩
    · exact h.fit o ho
  · have := h.cnt
    simp only [Tm.flat, cntA]
    rcases hk with ⟨rfl, h1⟩ | ⟨h1, h2⟩
    · simp [aheadB]; omega
    · split <;> omega
theorem Fm.two {a b : Tm} {m c n d : Nat} (h : Fm a m c) (g : Fm b n d) (k : Int) (m' c' : Nat) (hk : ((k = 8 ∨ k = 9) ∧ c + d ≤ c') ∨ ((k = 15 ∨ k = 16) ∧ c + d + 1 ≤ c')) (hm : m + n + 1 ≤ m') : Fm (.n2 k 0 a b) m' c' := by
  have hk2 : k = 8 ∨ k = 9 ∨ k = 15 ∨ k = 16 := by omega
  refine ⟨⟨by omega, by omega, by unfold partsOf; rw [if_pos (by omega)], h.ok, g.ok⟩, ?_, by have := h.size; have := g.size; simp only [Tm.size]; omega, ?_⟩
  · intro o ho
    rcases List.mem_cons.1 ho with rfl | ho
    · exact ⟨by simp only; omega, by simp only; omega, fun h => by simp only at h; omega, fun _ => rfl⟩
    · rcases List.mem_append.1 ho with ho | ho
      · exact h.fit o ho
      · exact g.fit o ho
  · have := h.cnt
    have := g.cnt
    simp only [Tm.flat, cntA, cntA_app]
    rcases hk with ⟨h1, h2⟩ | ⟨h1, h2⟩
    · rw [if_neg (by unfold aheadB; simp only [decide_eq_true_eq]; omega)]; omega
    · split <;> omega
theorem fm_yes : Fm (.n0 11 0) 1 0 := ⟨⟨by omega, by omega, by decide⟩, fun o ho => by
  simp only [Tm.flat, List.mem_singleton] at ho
  subst ho
  exact ⟨by simp, by simp, fun h => by simp at h, fun _ => rfl⟩, Nat.le_refl _, by simp [Tm.flat, cntA, aheadB]⟩
theorem fm_for (raw : List Op2) (k : Nat) : Fm (forO raw 3 k) 17 k := by
  have h1 := fT_small raw 3 4 k
  have h2 := fT_cnt raw 3 4 0 k
  exact ⟨fT_ok raw 3 4 0 k, fT_fit raw 3 4 0 k, by unfold forO; omega, by unfold forO; omega⟩

/-- Two cells of a box. -/
theorem two_later {w w' : World} {g : Nat} {u v : Value} (hb : Ext w w') (h : w.cell? ⟨g, 0, none⟩ = some u ∧ w.cell? ⟨g, 1, none⟩ = some v) : w'.cell? ⟨g, 0, none⟩ = some u ∧ w'.cell? ⟨g, 1, none⟩ = some v :=
  ⟨cell_later hb h.1, cell_later hb h.2⟩
theorem two_alloc {w : World} {o : Obj} {g : Nat} {u v : Value} (h : w.cell? ⟨g, 0, none⟩ = some u ∧ w.cell? ⟨g, 1, none⟩ = some v) : (w.alloc o).cell? ⟨g, 0, none⟩ = some u ∧ (w.alloc o).cell? ⟨g, 1, none⟩ = some v := two_later (ext_al (Ext.refl w) o) h
theorem two_drew {w : World} {g : Nat} {u v : Value} (h : w.cell? ⟨g, 0, none⟩ = some u ∧ w.cell? ⟨g, 1, none⟩ = some v) : w.drew.cell? ⟨g, 0, none⟩ = some u ∧ w.drew.cell? ⟨g, 1, none⟩ = some v := two_later (Below.drew (Ext.refl w)) h
/-- joined behind a region's draw. -/
theorem joinD2 (k : Int) (va vb : Value) (a b : Tm) (w : World) (T : TypeId) (ha : IsT w va a) (hb : IsT w vb b) (hl : a.size + b.size ≤ 10000) :
    Calls Tryd.prog 14 #[.int .i64 k, .slice (some ⟨w.heap.size, 0, none⟩) 2 2] (w.alloc (.cells #[va, vb] T)).drew fun e w' => ∃ v', e = .returned v' ∧ IsT w' v' (.n2 k 0 a b) ∧ Ext w w' :=
  (joinT2 k va vb a b w.drew T (ha.ext (Below.drew (Ext.refl w))) (hb.ext (Below.drew (Ext.refl w))) hl).mono fun _ _ ⟨v, h1, h2, h3⟩ => ⟨v, h1, h2, (Below.drew (Ext.refl w)).trans h3⟩
theorem joinD1 (k : Int) (va : Value) (a : Tm) (w : World) (T : TypeId) (ha : IsT w va a) (hl : a.size ≤ 10000) :
    Calls Tryd.prog 14 #[.int .i64 k, .slice (some ⟨w.heap.size, 0, none⟩) 1 1] (w.alloc (.cells #[va] T)).drew fun e w' => ∃ v', e = .returned v' ∧ IsT w' v' (.n1 k 0 a) ∧ Ext w w' :=
  (joinT1 k va a w.drew T (ha.ext (Below.drew (Ext.refl w))) hl).mono fun _ _ ⟨v, h1, h2, h3⟩ => ⟨v, h1, h2, (Below.drew (Ext.refl w)).trans h3⟩

/-- A list of one term, laid for a call. -/
def IsL1 (w : World) (s : Value) (a : Tm) : Prop := OpsL w s [a.flat]
theorem IsL1.ext {w w' : World} {s : Value} {a : Tm} (h : IsL1 w s a) (hb : Ext w w') : IsL1 w' s a := by
  obtain ⟨vs, hl, hr, he⟩ := h
  exact ⟨vs, hl, hr.ext hb, fun i x l hx hl' => ops_ext (he i x l hx hl') hb⟩
theorem il1_new (w : World) (T : TypeId) (va : Value) (a : Tm) (ha : IsT w va a) : IsL1 (w.alloc (.cells #[va] T)) (.slice (some ⟨w.heap.size, 0, none⟩) 1 1) a :=
  opsL_new w T [va] [a.flat] rfl (by simp [maxLen]) (by
    intro i x l hx hl'
    match i with
    | 0 => simp at hx hl'; subst hx; subst hl'; exact ha
    | i + 1 => simp at hx)
theorem two_args (w : World) (T : TypeId) (va vb : Value) (a b : Tm) (ha : IsT w va a) (hb : IsT w vb b) :
    IsL1 ((w.alloc (.cells #[va] T)).alloc (.cells #[vb] T)).drew (.slice (some ⟨w.heap.size, 0, none⟩) 1 1) a ∧ IsL1 ((w.alloc (.cells #[va] T)).alloc (.cells #[vb] T)).drew (.slice (some ⟨w.heap.size + 1, 0, none⟩) 1 1) b ∧ Ext w ((w.alloc (.cells #[va] T)).alloc (.cells #[vb] T)).drew := by
  have h1 : Ext w (w.alloc (.cells #[va] T)) := (Ext.refl w).alloc (Nat.le_refl _) _
  have h2 : Ext (w.alloc (.cells #[va] T)) ((w.alloc (.cells #[va] T)).alloc (.cells #[vb] T)).drew := ((Ext.refl _).alloc (Nat.le_refl _) _).drew
  refine ⟨(il1_new w T va a ha).ext h2, ?_, h1.trans h2⟩
  have := (il1_new (w.alloc (.cells #[va] T)) T vb b (hb.ext h1)).ext (Below.drew (Ext.refl _))
  simpa using this
theorem joinS1 (k : Int) (s : Value) (a : Tm) (w : World) (hs : IsL1 w s a) (hl : a.size ≤ 10000) :
    Calls Tryd.prog 14 #[.int .i64 k, s] w fun e w' => ∃ v', e = .returned v' ∧ IsT w' v' (.n1 k 0 a) ∧ Ext w w' := by
  refine (joined_any k s [a.flat] w hs (by simp [Tm.flat_len]; omega) (by simp)).mono ?_
  rintro e w' ⟨v', rfl, hown, hx⟩
  have e : joinL k [a.flat] = (k, 0) :: a.flat := by simp [joinL]
  rw [e] at hown
  exact ⟨v', rfl, ops_own hown, hx⟩

end Go.Proofs.YtkkbefhnklpfaaaDoor

namespace Go.Proofs.YtkkbefhnklpfaaaDoor
open Go.RowKit

theorem tvT_flat {L : List Bool} {c : Nat} {t : Tm} (h : cntA t.flat = 0) : ∀ b b', tvT L c t b = tvT L c t b' := by
  induction t with
  | n0 k v =>
    intro b b'
    have hk : aheadB k = false := by
      simp only [Tm.flat, cntA] at h
      cases e : aheadB k
      · rfl
      · rw [e] at h; simp at h
    simp [tvT, hk]
  | n1 k v a ih =>
    intro b b'
    simp only [Tm.flat, cntA] at h
    have hk : aheadB k = false := by
      cases e : aheadB k
      · rfl
      · rw [e] at h; simp at h
    have ha : cntA a.flat = 0 := by rw [hk] at h; simpa using h
    simp only [tvT, hk, Bool.false_eq_true, if_false, Nat.add_zero]
    rw [ih ha b b']
  | n2 k v x y ih1 ih2 =>
    intro b b'
    simp only [Tm.flat, cntA, cntA_app] at h
    have hk : aheadB k = false := by
      cases e : aheadB k
      · rfl
      · rw [e] at h; simp at h
    rw [hk] at h
    simp only [Bool.false_eq_true, if_false] at h
    have hx : cntA x.flat = 0 := by omega
    have hy : cntA y.flat = 0 := by omega
    simp only [tvT, hk, Bool.false_eq_true, if_false, Nat.add_zero]
    rw [ih1 hx b b', ih2 hy (b + cntA x.flat) (b' + cntA x.flat)]

/-- A formula or its not holds at once. -/
theorem or_head {L : List Bool} {c : Nat} {t : Tm} (h : cntA t.flat = 0) : (tvT L c (.n2 9 0 t (.n1 10 0 t)) 0).head?.getD false = true := by
  have e := tvT_flat (L := L) (c := c) h (0 + 0 + cntA t.flat) 0
  have e2 := tvT_flat (L := L) (c := c) h (0 + cntA t.flat) 0
  simp only [tvT, show aheadB 9 = false by decide, show aheadB 10 = false by decide, Bool.false_eq_true, if_false, Nat.add_zero, Nat.zero_add, show ¬ (9 : Int) = 8 by decide] at *
  rw [e2]
  simp

theorem or_begin {m : Md} {P : List Tm} {t : Tm} (h : cntA t.flat = 0) : iX m P (.n2 9 0 t (.n1 10 0 t)) = [] := by
  unfold iX begL
  rw [List.map_eq_nil_iff, List.filter_eq_nil_iff]
  intro c _
  rw [or_head h]
  simp
theorem or_not_begin {m : Md} {P : List Tm} {t : Tm} (h : cntA t.flat = 0) : (iX m P (.n1 10 0 (.n2 9 0 t (.n1 10 0 t)))).length = 1 := by
  have hc : cntA (Tm.n1 10 0 (.n2 9 0 t (.n1 10 0 t))).flat = 0 := by simp [Tm.flat, cntA, cntA_app, aheadB, h]
  unfold iX begL
  rw [hc, List.length_map]
  have : ((List.range (2 ^ 0)).filter fun c => !(tvT (letS P (valsL m.vars m.first)) c (.n1 10 0 (.n2 9 0 t (.n1 10 0 t))) 0).head?.getD false) = List.range (2 ^ 0) := by
    rw [List.filter_eq_self]
    intro c _
    rw [not_head, or_head h]
    rfl
  rw [this]
  rfl
theorem none_explored {BF : Sp2 → List Sp2} {O : Sp2 → Prop} {I X : List Sp2} {L : List (List Int)} (h : XDone BF O I X L) (hI : I = []) : X.length = 0 := by
  by_cases hx : 0 < X.length
  · obtain ⟨s, hs, _⟩ := h.reach 0 hx
    rw [hI] at hs
    simp at hs
  · omega

set_option maxRecDepth 100000 in
set_option maxHeartbeats 16000000 in
theorem exploreYes_walk (pv fr : Value) (d : Dn) (raw : List Op2) (W : World) (ht : Tab W) (hpl : IsPlans W pv d.rules) (hd : DnI d) (hr : Ops W fr raw) (hR : RawF raw) :
    Calls Tryd.prog 7 #[.agg (dnc d pv), fr] W fun e w' => e = .returned (.bool true) ∧ Ext W w' := by
  have EE := ext_al (Ext.refl W) (Obj.cells (dnc d pv) 25)
  have HTA := Lib.hid (task_any pv fr d raw 0 _ (hpl.ext EE) hd (ops_ext hr EE) hR (by omega))
  have HK := Lib.hid (task_ok d raw 0 (by omega))
  have hc0 : cntA (forO raw 3 0).flat = 0 := by have := forO_cnt raw 0; omega
  have HF := Lib.hid (fm_for raw 0)
  have hsz := (fm_for raw 0).size
  have hn1 := d.drawn.n1
  have hn16 := d.drawn.n16
  have HEE := Lib.hid EE
  have HTB := Lib.hid (ht.ext EE)
  obtain ⟨ar0, cr0, rfl, _⟩ := id hr
  generalize forO raw 3 0 = t at *
  generalize d.md = m at *
  simp only [dnc] at HTA HEE HTB ⊢
  generalize raw.length = nraw at *
  clear ht hpl hd hr hR EE
  go_enter Tryd.func7, Tryd.ntmps7
  go_wp2_with fail
  generalize W.alloc (Obj.cells #[.int .i64 d.s0, .int .i64 d.s1, .int .i64 d.l0, .int .i64 d.l1, .int .i64 d.i0, .int .i64 d.i1, pv] 25) = W0 at *
  refine HTA.out.mono ?_
  rintro e w1 ⟨vv, rv, qv, fv, rfl, hT1, hE1⟩
  obtain ⟨av, cv, ar, cr, ap, cp, af, nf, cf, rfl, rfl, rfl, rfl⟩ := hT1.val
  have HT1 := Lib.hid hT1
  have HX1 := Lib.hid (HEE.out.trans hE1)
  have HTB1 := Lib.hid (HTB.out.ext hE1)
  obtain ⟨C, hC⟩ : ∃ C : Nat, countL m.vars = (C : Int) := ⟨(countL m.vars).toNat, by omega⟩
  have hf1 : Fm (.n2 9 0 t (.n1 10 0 t)) 36 0 := HF.out.two (HF.out.one 10 18 0 (.inl ⟨rfl, Nat.le_refl _⟩) (Nat.le_refl _)) 9 36 0 (.inl ⟨.inr rfl, Nat.le_refl _⟩) (Nat.le_refl _)
  have hf2 : Fm (.n1 10 0 (.n2 9 0 t (.n1 10 0 t))) 37 0 := hf1.one 10 37 0 (.inl ⟨rfl, Nat.le_refl _⟩) (Nat.le_refl _)
  have hpl3 : propT.length = 3 := rfl
  have HEX := Lib.hid fun (gv : Value) (u : Tm) wx (hx : Ext w1 wx) (hg : IsT wx gv u) (hu : Fm u 37 0) => explore_any _ _ _ gv m propT u wx ⟨HT1.out.md.ext hx, HT1.out.pr.ext hx, hg⟩ (HTB1.out.ext hx) ⟨HK.out.ok, HK.out.v0, HK.out.pk, hu.isF (by omega) (by omega)⟩ C hC (by
    have h1 : C ≤ 16 := by omega
    have h2 : cntA u.flat = 0 := by have := hu.cnt; omega
    rw [h2]
    omega)
  have HF1 := Lib.hid hf1
  have HF2 := Lib.hid hf2
  have HI1 := Lib.hid (or_begin (m := m) (P := propT) hc0)
  have HI2 := Lib.hid (or_not_begin (m := m) (P := propT) hc0)
  have A0 := hT1.fo
  have TB := HTB1.out
  clear hT1 hE1 HTA HTB hC hn1 hn16 hf1 hf2 hpl3
  generalize m.vars.length = nv at *
  generalize m.rules.length = nr at *
  generalize propT.length = np at *
  have hbq := blk_new w1 (Obj.cells #[.slice av nv cv, .slice ar nr cr, .slice ap np cp, .slice af nf cf] 49)
  have hxq := ext_al (Ext.refl w1) (Obj.cells #[.slice av nv cv, .slice ar nr cr, .slice ap np cp, .slice af nf cf] 49)
  have HQ1 := Lib.hid hbq
  have HXQ := Lib.hid hxq
  replace A0 := A0.ext hxq
  clear hbq hxq TB
  go_upto_region 2 with fail
  obtain ⟨Q, hQ⟩ : ∃ Q, w1.heap.size = Q := ⟨_, rfl⟩
  have HQE := Lib.hid hQ
  rw [hQ] at HQ1 ⊢
  clear hQ
  generalize hW2 : w1.alloc (Obj.cells #[.slice av nv cv, .slice ar nr cr, .slice ap np cp, .slice af nf cf] 49) = W2 at *
  clear hW2
  go_cut [5] (fun s5 wx => s5 = .pointer (some ⟨Q, 0, none⟩) ∧ ∃ (ag : Option Addr) (ng cg : Nat), IsT wx (.slice ag ng cg) (.n2 9 0 t (.n1 10 0 t)) ∧ wx.heap[Q]? = some (.cells #[.slice av nv cv, .slice ar nr cr, .slice ap np cp, .slice ag ng cg] 49 (0, 0)) ∧ Ext w1 wx)
  case first =>
    obtain ⟨wn, rfl⟩ : ∃ wn : World, wn = W2 := ⟨_, rfl⟩
    have cur := HQ1.out
    have EE := HXQ.out
    have d3 := blk_cell cur (i := 3) rfl
    have d3a := blk_cell (blk_ext cur (ext_al (Ext.refl wn) (Obj.cells #[.slice af nf cf] 36))) (i := 3) rfl
    clear HQ1 HXQ
    go_region_law (first
      | (have hq := J1
         clear hq
         go_simp
         go_at_call 14
         refine (joinT2 9 _ _ t (.n1 10 0 t) _ _ A0 J1 (by simp only [Tm.size]; omega)).mono ?_
         rintro e wn ⟨vj, rfl, J2, hE⟩
         obtain ⟨aj, nj, cj, rfl⟩ := J2.val
         replace cur := blk_ext cur hE
         replace EE := EE.trans hE
         have d3 := blk_cell cur (i := 3) rfl
         have f3 := blk_free cur 3
         clear hE)
      | (go_simp
         go_at_call 14
         refine (joinD1 10 _ t _ _ A0 (by omega)).mono ?_
         rintro e wn ⟨vj, rfl, J1, hE⟩
         obtain ⟨aj, nj, cj, rfl⟩ := J1.val
         replace cur := blk_ext cur hE
         replace EE := EE.trans hE
         replace A0 := A0.ext hE
         have d3 := blk_cell cur (i := 3) rfl
         clear hE))
    all_goals
      have hb5 := blk_set (i := 3) cur (.slice aj nj cj)
      rw [(set4 _ _ _ _ _).2.2.2] at hb5
      have hG5 := isT_S J2 ⟨⟨_, _, _, _, _, _, _, _, _, _, _, _, _, _, _, _, rfl, rfl, rfl, rfl, rfl⟩⟩ cur (grown_setP wn ⟨Q, 3, none⟩ (.slice aj nj cj))
      have hX5 := ext_st EE (p := ⟨Q, 3, none⟩) (by have := HQE.out; show w1.heap.size ≤ Q; omega) (.slice aj nj cj)
      have HB5 := Lib.hid hb5
      have HG5 := Lib.hid hG5
      have HX5 := Lib.hid hX5
      clear hb5 hG5 hX5 cur d3 d3a f3 J1 J2 A0 EE
      go_wp2_with fail
      go_meet
      exact ⟨rfl, _, _, _, HG5.out, HB5.out, HX5.out⟩
  case rest =>
    obtain ⟨rfl, ag, ng, cg, hG, hb, hX⟩ := hcut
    have HG := Lib.hid hG
    have HB := Lib.hid hb
    have HX := Lib.hid hX
    have d0 := blk_cell hb (i := 0) rfl
    have d1 := blk_cell hb (i := 1) rfl
    have d2 := blk_cell hb (i := 2) rfl
    have d3 := blk_cell hb (i := 3) rfl
    clear hG hb hX A0 HQ1 HXQ
    go_wp2_with fail
    refine (HEX.out _ _ _ HX.out HG.out ⟨HF1.out.ok, HF1.out.fit, Nat.le_trans HF1.out.size (by omega), HF1.out.cnt⟩).mono ?_
    unfold ExplR
    rintro e w6 ⟨τ6, sp6, nx6, st6, X6, L6, rfl, hG6, hX6, hE6⟩
    obtain ⟨asp6, csp6, rfl, _⟩ := id hG6.spots
    obtain ⟨ax6, cx6, rfl⟩ : ∃ a c, nx6 = .slice a L6.length c := by
      obtain ⟨vs, _, a, c, e, _⟩ := hG6.lists
      exact ⟨a, c, e⟩
    obtain ⟨at6, ct6, rfl, _⟩ := id hG6.ints
    rw [none_explored hX6 HI1.out, HI1.out]
    have HX6 := Lib.hid (HX.out.trans hE6)
    have HN6 := Lib.hid (show Q < w6.heap.size from Nat.lt_of_lt_of_le (blk_lt HB.out) hE6.size)
    have hb6 := blk_ext HB.out hE6
    have HG6 := Lib.hid (HG.out.ext hE6)
    obtain ⟨k6, hk6⟩ : ∃ k, cntA (Tm.n2 9 0 t (.n1 10 0 t)).flat = k := ⟨_, rfl⟩
    obtain ⟨l6, hl6⟩ : ∃ k, L6.length = k := ⟨_, rfl⟩
    obtain ⟨s6, hs6⟩ : ∃ k, (X6.map (sX m propT (Tm.n2 9 0 t (.n1 10 0 t)))).length = k := ⟨_, rfl⟩
    rw [hk6, hl6, hs6]
    simp only [List.length_nil]
    clear hG6 hX6 hE6 hk6 hl6 hs6 d0 d1 d2 d3
    have hgn := blk_new w6 (Obj.cells #[.slice asp6 0 csp6, .int .i64 0, .slice ax6 l6 cx6, .slice at6 s6 ct6, .int .i64 (k6 : Int)] 70)
    have hgx := ext_al (Ext.refl w6) (Obj.cells #[.slice asp6 0 csp6, .int .i64 0, .slice ax6 l6 cx6, .slice at6 s6 ct6, .int .i64 (k6 : Int)] 70)
    have HGN := Lib.hid hgn
    have HB7 := Lib.hid (blk_ext hb6 hgx)
    have HX7 := Lib.hid (HX6.out.trans hgx)
    have HG7 := Lib.hid (HG6.out.ext hgx)
    have d3 := blk_cell HB7.out (i := 3) rfl
    clear hgn hgx hb6
    go_upto_region 4 with fail
    generalize w6.alloc (Obj.cells #[.slice asp6 0 csp6, .int .i64 0, .slice ax6 l6 cx6, .slice at6 s6 ct6, .int .i64 (k6 : Int)] 70) = W7 at *
    have hs1 := HF1.out.size
    go_wp2_with fail
    refine (joinT1 10 _ _ W7 36 HG7.out (by omega)).mono ?_
    rintro e w8 ⟨vj, rfl, hJ8, hE8⟩
    obtain ⟨aj, nj, cj, rfl⟩ := hJ8.val
    have cur := blk_ext HB7.out hE8
    have f3 := blk_free cur 3
    have e3 := blk_cell cur (i := 3) rfl
    have hb9 := blk_set (i := 3) cur (.slice aj nj cj)
    rw [(set4 _ _ _ _ _).2.2.2] at hb9
    have hG9 := isT_S hJ8 ⟨⟨_, _, _, _, _, _, _, _, _, _, _, _, _, _, _, _, rfl, rfl, rfl, rfl, rfl⟩⟩ cur (grown_setP w8 ⟨Q, 3, none⟩ (.slice aj nj cj))
    have hX9 := ext_st (HX7.out.trans hE8) (p := ⟨Q, 3, none⟩) (by have := HQE.out; show w1.heap.size ≤ Q; omega) (.slice aj nj cj)
    have hgq : Q ≠ w6.heap.size := fun e => by
      have h2 := HN6.out
      omega
    have hgn9 := blk_far (blk_ext HGN.out hE8) (p := ⟨Q, 3, none⟩) hgq (.slice aj nj cj)
    have HB9 := Lib.hid hb9
    have HG9 := Lib.hid hG9
    have HX9 := Lib.hid hX9
    have HN9 := Lib.hid hgn9
    clear hb9 hG9 hX9 hgn9 hJ8 hE8 cur d3 hgq
    go_upto_region 5 with fail
    generalize w8.setCell ⟨Q, 3, none⟩ (.slice aj nj cj) = W9 at *
    clear e3 f3
    have d0 := blk_cell HB9.out (i := 0) rfl
    have d1 := blk_cell HB9.out (i := 1) rfl
    have d2 := blk_cell HB9.out (i := 2) rfl
    have d3 := blk_cell HB9.out (i := 3) rfl
    go_wp2_with fail
    refine (HEX.out _ _ _ HX9.out HG9.out HF2.out).mono ?_
    unfold ExplR
    rintro e wA ⟨τA, spA, nxA, stA, XA, LA, rfl, hGA, hXA, hEA⟩
    obtain ⟨aspA, cspA, rfl, _⟩ := id hGA.spots
    obtain ⟨axA, cxA, rfl⟩ : ∃ a c, nxA = .slice a LA.length c := by
      obtain ⟨vs, _, a, c, e, _⟩ := hGA.lists
      exact ⟨a, c, e⟩
    obtain ⟨atA, ctA, rfl, _⟩ := id hGA.ints
    have h1A := hXA.ilen
    rw [HI2.out] at h1A ⊢
    obtain ⟨nA, hnA⟩ : ∃ k, XA.length = k := ⟨_, rfl⟩
    obtain ⟨kA, hkA⟩ : ∃ k, cntA (Tm.n1 10 0 (.n2 9 0 t (.n1 10 0 t))).flat = k := ⟨_, rfl⟩
    obtain ⟨lA, hlA⟩ : ∃ k, LA.length = k := ⟨_, rfl⟩
    obtain ⟨sA, hsA⟩ : ∃ k, (XA.map (sX m propT (Tm.n1 10 0 (.n2 9 0 t (.n1 10 0 t))))).length = k := ⟨_, rfl⟩
    rw [hnA] at h1A
    rw [hnA, hkA, hlA, hsA, show ((1 : Nat) : Int) = 1 from rfl]
    have hgn := blk_new wA (Obj.cells #[.slice aspA nA cspA, .int .i64 1, .slice axA lA cxA, .slice atA sA ctA, .int .i64 (kA : Int)] 70)
    have hgx := ext_al (Ext.refl wA) (Obj.cells #[.slice aspA nA cspA, .int .i64 1, .slice axA lA cxA, .slice atA sA ctA, .int .i64 (kA : Int)] 70)
    have hnn := blk_ext (blk_ext HN9.out hEA) hgx
    have HEF := Lib.hid (HX1.out.trans (HX9.out.trans (hEA.trans hgx)))
    have g0 := blk_cell hnn (i := 0) rfl
    have g1 := blk_cell hnn (i := 1) rfl
    have u0 := blk_cell hgn (i := 0) rfl
    have u1 := blk_cell hgn (i := 1) rfl
    clear hGA hXA hEA hgn hgx hnn hnA hkA hlA hsA d0 d1 d2 d3
    have hdec : decide ((1 : Int) ≤ (nA : Int)) = true := decide_eq_true (by omega)
    go_wp2
    go_ret
    exact ⟨rfl, HEF.out⟩

theorem exploreYes_law (cs : Array Value) (v1 : Value) (W : World) (ht : Tab W) (h0 : Cells Tryd.prog W 25 cs.toList) (h1 : Cells Tryd.prog W 46 [v1]) :
    Calls Tryd.prog 7 #[.agg cs, v1] W fun e w' => e = .returned (.bool true) ∧ Ext W w' := by
  obtain ⟨d, pv, rfl, hpl, hd⟩ := design_of h0
  obtain ⟨raw, hr, hR⟩ := raw_for h1
  exact exploreYes_walk pv v1 d raw W ht hpl hd hr hR

end Go.Proofs.YtkkbefhnklpfaaaDoor

namespace Go.Proofs.YtkkbefhnklpfaaaDoor
open Go.RowKit

/-- What the search's two variables hold: S the marks, T what is still to be gone through. -/
structure VMem (τ : Nat → Nat) (B S T D n : Nat) (w : World) (seen : List Bool) (todo : List Int) : Prop where
  ms : w.heap[S]? = some (.cells #[.slice (some ⟨D, 0, none⟩) n n] 73 (0, 0))
  mt : ∃ a c, w.heap[T]? = some (.cells #[.slice a todo.length c] 57 (0, 0)) ∧ OwnT τ 2 w B 3 1 (.slice a todo.length c) todo.length (todo.map (.int .i64))
  os : OwnT τ 1 w D 4 1 (.slice (some ⟨D, 0, none⟩) n n) n (seen.map .bool)
  ord : D < S ∧ S < T ∧ T < B
  tag : τ T = 0 ∧ B ≤ w.heap.size

theorem VMem.ext {τ : Nat → Nat} {B S T D n : Nat} {w w' : World} {seen : List Bool} {todo : List Int} (h : VMem τ B S T D n w seen todo) (hE : Ext w w') : VMem τ B S T D n w' seen todo := by
  obtain ⟨a, c, h1, h2⟩ := h.mt
  exact ⟨blk_ext h.ms hE, ⟨a, c, blk_ext h1 hE, h2.ext hE⟩, h.os.ext hE, h.ord, h.tag.1, Nat.le_trans h.tag.2 hE.size⟩
theorem VMem.len {τ : Nat → Nat} {B S T D n : Nat} {w : World} {seen : List Bool} {todo : List Int} (h : VMem τ B S T D n w seen todo) : seen.length = n := by simpa using h.os.own.1

def visL (seen : List Bool) (todo : List Int) (y : Nat) : List Bool × List Int := if seen[y]? = some true then (seen, todo) else (seen.set y true, todo ++ [(y : Int)])

set_option maxRecDepth 100000 in
set_option maxHeartbeats 2000000 in
theorem visit_any (τ : Nat → Nat) (B S T D n : Nat) (w : World) (seen : List Bool) (todo : List Int) (y : Nat) (h : VMem τ B S T D n w seen todo) (hy : y < n) (ht : todo.length ≤ 100000) :
    Calls Tryd.prog 44 #[.int .i64 (y : Int), .pointer (some ⟨S, 0, none⟩), .pointer (some ⟨T, 0, none⟩)] w fun e w' => e = .returned (.tuple #[]) ∧ (∃ τ', VMem τ' B S T D n w' (visL seen todo y).1 (visL seen todo y).2) ∧ Below D w w' := by
  have hl := h.len
  obtain ⟨h1, h2, h3⟩ := h.ord
  obtain ⟨h4, h5⟩ := h.tag
  have H4 := Lib.hid h4
  clear h4
  obtain ⟨a, c, b1, b2⟩ := h.mt
  have cS := blk_cell h.ms (i := 0) rfl
  have cT := blk_cell b1 (i := 0) rfl
  have fT := blk_free b1 0
  have hyl : y < seen.length := by omega
  have cy := own_cellAt h.os.own (i := y) (by simpa using hyl)
  have fy := own_freeAt h.os.own y
  rw [List.getElem_map] at cy
  have hD : D < w.heap.size := (h.os.own.lt D rfl).2
  have H := Lib.hid h
  have B2 := Lib.hid b2
  have B1 := Lib.hid b1
  have hyI : (y : Int) < (n : Int) := by omega
  have htD : τ D = 1 := h.os.tag D rfl
  have HTD := Lib.hid htD
  clear h b1 b2 hl htD
  cases hsy : seen[y] with
  | true =>
    rw [hsy] at cy
    have HV := Lib.hid (show visL seen todo y = (seen, todo) by simp [visL, List.getElem?_eq_getElem hyl, hsy])
    clear hsy
    go_enter Tryd.func44, Tryd.ntmps44
    go_wp2
    go_end0
    exact ⟨rfl, ⟨τ, by rw [HV.out]; exact H.out⟩, Below.refl _ _⟩
  | false =>
    rw [hsy] at cy
    have HV := Lib.hid (show visL seen todo y = (seen.set y true, todo ++ [(y : Int)]) by simp [visL, List.getElem?_eq_getElem hyl, hsy])
    clear hsy
    have q1 := H.out.os.setAt (i := y) (.bool true)
    rw [set_map_bool] at q1
    have q2 := B2.out.set (p := ⟨D, y, none⟩) (by show τ D ≠ 2; have := HTD.out; omega) (.bool true)
    have hal : Ext (w.setCell ⟨D, y, none⟩ (.bool true)) ((w.setCell ⟨D, y, none⟩ (.bool true)).alloc (Obj.cells #[.int .i64 (y : Int)] 3)) := ext_al (Ext.refl _) _
    have ho2 := q2.own.alloc (Obj.cells #[.int .i64 (y : Int)] 3)
    have bS := blk_ext (blk_far H.out.ms (p := ⟨D, y, none⟩) (by show D ≠ S; omega) (.bool true)) hal
    have bT := blk_ext (blk_far B1.out (p := ⟨D, y, none⟩) (by show D ≠ T; omega) (.bool true)) hal
    have Q1 := Lib.hid (q1.ext hal)
    have Q2 := Lib.hid (q2.ext hal)
    have BS := Lib.hid bS
    have BT := Lib.hid bT
    have HE := Lib.hid (show Below D w ((w.setCell ⟨D, y, none⟩ (.bool true)).alloc (Obj.cells #[.int .i64 (y : Int)] 3)) from Below.alloc (Below.setCell (Below.refl _ _) (p := ⟨D, y, none⟩) (by show D ≤ D; omega) _) (by simp; omega) _)
    clear q1 q2 bS bT hal
    go_enter Tryd.func44, Tryd.ntmps44
    go_wp2_with (at_builtin; go_must (refine wpl_append rfl rfl Tryd.slIntsG B rfl ho2 rfl (Row.oneG _ _ _ _ (by simp)) (one_int _) (by unfold maxLen; omega) (by omega) (by simp; omega) ?_))
    intro v3 w3 hown3 hg3 hb3 _
    have hb3' : v3.ownBlock = (Value.slice a todo.length c).ownBlock ∨ v3.ownBlock = some ((w.setCell ⟨D, y, none⟩ (.bool true)).alloc (Obj.cells #[.int .i64 (y : Int)] 3)).heap.size := by
      rcases hb3 with h | h
      · exact .inl h
      · right; rw [h]; simp
    have hlo : ∀ b, (Value.slice a todo.length c).ownBlock = some b → B ≤ b := fun b hb => (B2.out.own.lt b hb).1
    have r2 := Q2.out.app hown3 hb3'
    have r1 := Q1.out.other Q2.out hg3 (by omega)
    have rS := blk_grown BS.out hg3 (fun e => by have := hlo _ e.symm; omega)
    have rT := blk_grown BT.out hg3 (fun e => by have := hlo _ e.symm; omega)
    have rE := HE.out.grown hg3 (by simp; omega) (fun b hb => by have := hlo b hb; omega)
    obtain ⟨a3, c3, rfl, _⟩ := hown3.row
    have cT := blk_cell rT (i := 0) rfl
    have fT := blk_free rT 0
    have HR := Lib.hid r2
    have HG := Lib.hid hg3
    have R1 := Lib.hid r1
    have RS := Lib.hid rS
    have RT := Lib.hid rT
    have RE := Lib.hid rE
    clear hown3 hg3 hb3 hb3' r1 r2 rS rT rE cy fy ho2
    go_wp2
    go_end0
    refine ⟨rfl, ?_, RE.out.setCell (p := ⟨T, 0, none⟩) (by show D ≤ T; omega) _⟩
    rw [HV.out]
    have z := blk_set RT.out (i := 0) (.slice a3 (todo.length + 1) c3)
    have z2 := HR.out.low (p := ⟨T, 0, none⟩) (by show T < B; omega) (.slice a3 (todo.length + 1) c3)
    have t0 : tagAt τ ((w.setCell ⟨D, y, none⟩ (.bool true)).alloc (Obj.cells #[.int .i64 (y : Int)] 3)).heap.size 2 T = 0 := by rw [tagAt_lt (by simp; omega)]; exact H4.out
    have hsz := HG.out.size
    exact ⟨_, blk_far RS.out (p := ⟨T, 0, none⟩) (by show T ≠ S; omega) _, ⟨a3, c3, by simpa using z, by simpa using z2⟩, R1.out.set (p := ⟨T, 0, none⟩) (by rw [t0]; omega) _, ⟨h1, h2, h3⟩, t0, by simp at hsz ⊢; omega⟩

end Go.Proofs.YtkkbefhnklpfaaaDoor

namespace Go.Proofs.YtkkbefhnklpfaaaDoor
open Go.RowKit

theorem vis_seek {n : Nat} {next : List (List Int)} {src : Nat → Prop} {seen : List Bool} {todo : List Int} {c : Option (Nat × Nat)} {y : Nat} (h : Seek n next src seen todo) (hc : Closed next seen todo c) (hy : ∃ s, src s ∧ Reach next s y) (hn : y < n) :
    Seek n next src (visL seen todo y).1 (visL seen todo y).2 ∧ Closed next (visL seen todo y).1 (visL seen todo y).2 c ∧ (visL seen todo y).1[y]? = some true ∧ (∀ a : Nat, seen[a]? = some true → (visL seen todo y).1[a]? = some true) ∧
      2 * (n - (visL seen todo y).1.count true) + (visL seen todo y).2.length ≤ 2 * (n - seen.count true) + todo.length ∧ (todo.length ≤ seen.count true → (visL seen todo y).2.length ≤ (visL seen todo y).1.count true) := by
  unfold visL
  split
  · rename_i hs
    exact ⟨h, hc, hs, fun _ h => h, Nat.le_refl _, fun h => h⟩
  · rename_i hs
    have hl : y < seen.length := by rw [h.len]; exact hn
    have hf : seen[y]? = some false := by
      rw [List.getElem?_eq_getElem hl] at hs ⊢
      cases hb : seen[y] with
      | true => exact absurd (by rw [hb]) hs
      | false => rfl
    have hcs := count_set seen y hf
    have hle := List.count_le_length (a := true) (l := seen.set y true)
    rw [List.length_set, h.len] at hle
    refine ⟨h.mark hy hn (by simp), hc.mark (by simp +contextual) (by simp), by rw [List.getElem?_set]; simp [hl], fun a ha => seen_set ha, ?_, fun ht => ?_⟩
    · simp only [hcs, List.length_append, List.length_singleton]; omega
    · simp only [hcs, List.length_append, List.length_singleton]; omega

theorem VMem.pop {τ : Nat → Nat} {B S T D n : Nat} {w : World} {seen : List Bool} {s : List Int} {x : Int} (h : VMem τ B S T D n w seen (s ++ [x])) :
    ∃ g cap, w.heap[T]? = some (.cells #[.slice (some ⟨g, 0, none⟩) (s.length + 1) cap] 57 (0, 0)) ∧ w.cell? ⟨g, s.length, none⟩ = some (.int .i64 x) ∧ s.length + 1 ≤ cap ∧ cap ≤ maxLen ∧
      VMem τ B S T D n (w.setCell ⟨T, 0, none⟩ (.slice (some ⟨g, 0, none⟩) s.length cap)) seen s := by
  obtain ⟨h1, h2, h3⟩ := h.ord
  obtain ⟨h4, h5⟩ := h.tag
  obtain ⟨a, c, b1, b2⟩ := h.mt
  simp only [List.length_append, List.length_singleton, List.map_append, List.map_cons, List.map_nil] at b1 b2
  have hr := b2.own.row
  obtain ⟨a', c', e, hrow⟩ := hr
  simp only [Value.slice.injEq] at e
  obtain ⟨rfl, _, rfl⟩ := e
  rcases b2.own.2 with ⟨hn, _⟩ | ⟨g, cap, cur, hv, hb, hgg, hnc, hcm, hcs, ht⟩
  · cases hn
  · simp only [Value.slice.injEq] at hv
    obtain ⟨rfl, _, rfl⟩ := hv
    refine ⟨g, c, b1, ?_, hnc, hcm, blk_far h.ms (p := ⟨T, 0, none⟩) (by show T ≠ S; omega) _, ⟨some ⟨g, 0, none⟩, c, ?_, ?_⟩, h.os.set (p := ⟨T, 0, none⟩) (by rw [h4]; omega) _, h.ord, h4, by simpa using h5⟩
    · have := b2.own.cells (g := g) rfl s.length (.int .i64 x) (by simp)
      simpa [Addr.add_lit] using this
    · have := blk_set b1 (i := 0) (.slice (some ⟨g, 0, none⟩) s.length c)
      simpa using this
    · exact OwnT.low ⟨ownsRow_pop (size := 1) (by simp) b2.own, fun b hb => b2.tag b hb⟩ (p := ⟨T, 0, none⟩) (by show T < B; omega) _

set_option maxRecDepth 100000 in
set_option maxHeartbeats 4000000 in
theorem reached_any (sp nx st : Value) (init : Nat) (M : Nat) (S : List Sp2) (next : List (List Int)) (sets : List Int) (w : World) (hS : Spots w sp S) (hN : Lists w nx next) (hT : Ints w st sets) (hk : GOk S.length next sets init M) :
    Calls Tryd.prog 23 #[.agg #[sp, .int .i64 (init : Int), nx, st, .int .i64 (M : Int)]] w fun e w' => ∃ v, e = .returned (.tuple #[v, .int .i64 0]) ∧ MarkPost w S.length next (fun s => s < init) v w' := by
  have HCK := Lib.hid fun wx (hx : Ext w wx) => gcheck_ok sp nx st init M S next sets wx (hS.ext hx) (hN.ext hx) (hT.ext hx) hk
  obtain ⟨asp, csp, rfl, _⟩ := hS
  obtain ⟨ax, cx, rfl⟩ : ∃ a c, nx = .slice a next.length c := by
    obtain ⟨vs, he, a, c, rfl, _⟩ := hN
    exact ⟨a, c, rfl⟩
  obtain ⟨at', ct, rfl, hrt⟩ := hT
  obtain ⟨_, _, _, bn, on, han, hcn⟩ := hN.cells
  have hmf : ∀ (fn : Fn) (first cap : Array Value) (w : World), (Instr.makeFunc fn first cap).run Tryd.prog w = .ok (.func fn first cap) w := fun _ _ _ _ => rfl
  have HC := Lib.hid hcn
  have HA := Lib.hid han
  have HI := Lib.hid hk.ins
  have HN := Lib.hid hk.nx
  have h20 := hk.max
  have hin := hk.i1
  generalize S.length = n at *
  clear hN hcn han hk hrt
  go_enter Tryd.func23, Tryd.ntmps23
  go_wp2_with fail
  refine (HCK.out _ (ext_al (Ext.refl w) _)).mono ?_
  rintro e w1 ⟨rfl, hE1⟩
  have hA : Ext w (w.alloc (Obj.cells #[.slice asp n csp, .int .i64 (init : Int), .slice ax next.length cx, .slice at' sets.length ct, .int .i64 (M : Int)] 70)) := ext_al (Ext.refl w) _
  have bA := blk_ext (blk_new w (Obj.cells #[.slice asp n csp, .int .i64 (init : Int), .slice ax next.length cx, .slice at' sets.length ct, .int .i64 (M : Int)] 70)) hE1
  have cA0 := blk_cell bA (i := 0) rfl
  have HE1 := Lib.hid (hA.trans hE1)
  have BA := Lib.hid bA
  have hs1 : w.heap.size < w1.heap.size := blk_lt bA
  clear hA bA hE1 HCK
  go_wp2_with (at_make; go_must (refine wpList_make_full _ rfl _ _ 73 rfl w1.heap.size 4 (Tryd.slBoolsG.inf.choose) (.bool false) 1 Tryd.underlying73 Tryd.slBoolsG.inf.choose_spec.1 Tryd.slBoolsG.inf.choose_spec.2.1 Tryd.slBoolsG.inf.choose_spec.2.2.1 .i64 .i64 n n n rfl rfl rfl rfl (by rw [Tryd.slBoolsG.inf.choose_spec.2.2.2]; omega) (by unfold maxLen; omega) (Nat.le_refl _) ?_))
  intro w2 hown2 hg2
  rw [made_false] at hown2
  have HO2 := Lib.hid hown2
  have HE2 := Lib.hid ((Ext.refl w1).grown hg2 (Nat.le_refl _) (by simp))
  have hs2 : w1.heap.size < w2.heap.size := (hown2.lt _ rfl).2
  clear hown2 hg2 cA0
  have BA2 := Lib.hid (blk_ext BA.out HE2.out)
  have cA1 := blk_cell BA2.out (i := 1) rfl
  have cA2 : ((w2.alloc (Obj.cells #[.slice (some ⟨w1.heap.size, 0, none⟩) n n] 73)).alloc (Obj.cells #[.slice none 0 0] 57)).cell? ⟨w.heap.size, 1, none⟩ = some (.int .i64 (init : Int)) := cell_later (ext_al (ext_al (Ext.refl _) _) _) cA1
  go_wp2_with fail
  clear cA2
  have hW : Ext w2 ((w2.alloc (Obj.cells #[.slice (some ⟨w1.heap.size, 0, none⟩) n n] 73)).alloc (Obj.cells #[.slice none 0 0] 57)) := ext_al (ext_al (Ext.refl _) _) _
  have bS := blk_ext (blk_new w2 (Obj.cells #[.slice (some ⟨w1.heap.size, 0, none⟩) n n] 73)) (ext_al (Ext.refl _) (Obj.cells #[.slice none 0 0] 57))
  have bT := blk_new (w2.alloc (Obj.cells #[.slice (some ⟨w1.heap.size, 0, none⟩) n n] 73)) (Obj.cells #[.slice none 0 0] 57)
  have hsT : (w2.alloc (Obj.cells #[.slice (some ⟨w1.heap.size, 0, none⟩) n n] 73)).heap.size = w2.heap.size + 1 := by simp
  rw [hsT] at bT
  have hv0 : VMem (fun b => if b = w1.heap.size then 1 else 0) (w2.heap.size + 2) w2.heap.size (w2.heap.size + 1) w1.heap.size n ((w2.alloc (Obj.cells #[.slice (some ⟨w1.heap.size, 0, none⟩) n n] 73)).alloc (Obj.cells #[.slice none 0 0] 57)) (List.replicate n false) [] :=
    ⟨bS, ⟨none, 0, bT, OwnT.nil _ _ _ _ _ _⟩, ⟨own_ext HO2.out hW, fun b hb => by simp [Value.ownBlock] at hb; simp [hb]⟩, ⟨hs2, by omega, by omega⟩, (if_neg (by omega)), by simp⟩
  have HV0 := Lib.hid hv0
  have BA3 := Lib.hid (blk_ext BA2.out hW)
  have HE3 := Lib.hid ((HE1.out.trans HE2.out).trans hW)
  have hsk := seek_begin n next (fun s => s < init)
  have hc0 : (List.replicate n false).count true = 0 := by simp [List.count_replicate]
  have HSK := Lib.hid hsk
  clear hW bS bT hsT hv0 hsk BA2 BA HE1 HE2 cA1 HO2
  generalize hS : w2.heap.size = S at *
  generalize hD : w1.heap.size = D at *
  generalize (w2.alloc (Obj.cells #[.slice (some ⟨D, 0, none⟩) n n] 73)).alloc (Obj.cells #[.slice none 0 0] 57) = W3 at *
  clear hS hD
  go_loopg [24] init (fun m x wr => ∃ (i : Nat) (τ : Nat → Nat) (seen : List Bool) (todo : List Int), m + i = init ∧ x = .int .i64 (i : Int) ∧ VMem τ (S + 2) S (S + 1) D n wr seen todo ∧
    wr.heap[w.heap.size]? = some (.cells #[.slice asp n csp, .int .i64 (init : Int), .slice ax next.length cx, .slice at' sets.length ct, .int .i64 (M : Int)] 70 (0, 0)) ∧ Ext w wr ∧
    Seek n next (fun s => s < init) seen todo ∧ Closed next seen todo none ∧ todo.length ≤ seen.count true ∧ ∀ s, s < i → seen[s]? = some true)
  case atStart => exact ⟨0, _, _, [], by omega, by go_num, HV0.out, BA3.out, HE3.out, HSK.out.1, HSK.out.2, by simp, by omega⟩
  case round =>
    obtain ⟨i, τ, seen, todo, hm, rfl, hV, bA, hE, hsk, hcl, htc, hsi⟩ := hrel
    clear HV0 BA3 HE3 HSK hc0
    have hcn : todo.length ≤ n := by have := List.count_le_length (a := true) (l := seen); have := hsk.len; omega
    have HV := Lib.hid hV
    have BA := Lib.hid bA
    have HE := Lib.hid hE
    have HM := Lib.hid hm
    by_cases hi : i < init
    · have hvs := vis_seek (y := i) hsk hcl ⟨i, hi, Reach.refl _⟩ (by omega)
      have HVS := Lib.hid hvs
      have HSI := Lib.hid hsi
      have HTC := Lib.hid htc
      have hiI : (i : Int) < (init : Int) := by omega
      clear hV bA hE hsk hcl hsi htc hvs hm
      go_wp2_with fail
      refine (visit_any τ (S + 2) S (S + 1) D n wr seen todo i HV.out (by omega) (by omega)).mono ?_
      rintro e w4 ⟨rfl, ⟨τ', hV'⟩, hB⟩
      have HV' := Lib.hid hV'
      have HB := Lib.hid hB
      clear hV' hB
      go_wp2_with fail
      go_roundg (gk - 1)
      case measure => have := HM.out; omega
      case rel => exact ⟨i + 1, τ', _, _, by have := HM.out; omega, by go_num, HV'.out, blk_below BA.out HB.out (by omega), Below.trans HE.out (HB.out.mono (by omega)), HVS.out.1, HVS.out.2.1, HVS.out.2.2.2.2.2 HTC.out, fun s hs => by
        by_cases e : s = i
        · subst e; exact HVS.out.2.2.1
        · exact HVS.out.2.2.2.1 s (HSI.out s (by omega))⟩
    · have hsi' : ∀ s, s < init → seen[s]? = some true := fun s hs => hsi s (by omega)
      have HSK := Lib.hid hsk
      have HCL := Lib.hid hcl
      have HSI := Lib.hid hsi'
      have HTC := Lib.hid htc
      have hiI : ¬ (i : Int) < (init : Int) := by omega
      clear hV bA hE hsk hcl hsi hsi' htc hm
      go_wp2_with fail
      obtain ⟨wo, rfl⟩ : ∃ wo : World, wo = wr := ⟨_, rfl⟩
      go_loopg [] (2 * (n - seen.count true) + todo.length) (fun m wr => ∃ (τ : Nat → Nat) (seen : List Bool) (todo : List Int), m = 2 * (n - seen.count true) + todo.length ∧ VMem τ (S + 2) S (S + 1) D n wr seen todo ∧
        wr.heap[w.heap.size]? = some (.cells #[.slice asp n csp, .int .i64 (init : Int), .slice ax next.length cx, .slice at' sets.length ct, .int .i64 (M : Int)] 70 (0, 0)) ∧ Ext w wr ∧
        Seek n next (fun s => s < init) seen todo ∧ Closed next seen todo none ∧ todo.length ≤ seen.count true ∧ ∀ s, s < init → seen[s]? = some true)
      case atStart => exact ⟨τ, seen, todo, rfl, HV.out, BA.out, HE.out, HSK.out, HCL.out, HTC.out, HSI.out⟩
      case round =>
        obtain ⟨τ, seen, todo, hgk, hV, bA, hE, hsk, hcl, htc, hsi⟩ := hrel
        clear HV BA HE HM HSK HCL HSI HTC hcn hiI
        rcases List.eq_nil_or_concat todo with rfl | ⟨s, x, rfl⟩
        · obtain ⟨a, c, b1, _⟩ := hV.mt
          have cT := blk_cell b1 (i := 0) rfl
          have cS := blk_cell hV.ms (i := 0) rfl
          have HEND := Lib.hid (seek_end hsk hcl (fun s hs => hsi s hs))
          have HL := Lib.hid hV.len
          have HO := Lib.hid hV.os.own
          have HE := Lib.hid hE
          clear b1 hV bA hE hsk hcl htc hsi hgk
          go_wp2
          go_ret2
          exact ⟨_, rfl, seen, own_down HO.out (by omega), HL.out, HEND.out, HE.out⟩
        · rw [List.concat_eq_append] at hgk hV hsk hcl htc
          obtain ⟨c, rfl, hcs⟩ := hsk.pen x (by simp)
          have hcn : c < n := by have := (List.getElem?_eq_some_iff.1 hcs).1; rw [hsk.len] at this; exact this
          have hcx : c < next.length := by have := HN.out; omega
          obtain ⟨g, cap, b1, cg, hcap, hcm, hVp⟩ := hV.pop
          have cT := blk_cell b1 (i := 0) rfl
          have fT := blk_free b1 0
          obtain rfl := HA.out (by omega)
          obtain ⟨ai, ci, hx, hx2⟩ := HC.out c hcx
          obtain ⟨_, _, e, hri⟩ := hx2
          simp only [Value.slice.injEq] at e
          obtain ⟨rfl, _, rfl⟩ := e
          have hmi : next[c].length ≤ 9223372036854775807 := by have h1 := hri.max; have h2 := hri.le; unfold maxLen at h1; omega
          obtain ⟨bi, oi, hri1, hri2⟩ := ints_cells hri
          have HL := Lib.hid (show next[c]? = some next[c] from List.getElem?_eq_getElem hcx)
          have HLI := Lib.hid (HI.out next[c] (by simp))
          have HX := Lib.hid hx
          have HI1 := Lib.hid hri1
          have HI2 := Lib.hid hri2
          generalize next[c] = l at *
          have hD : w.heap.size < S + 1 := by have := hV.ord; omega
          have hcl' : Closed next seen s (some (c, 0)) := hcl.begin fun x hx => by
            rcases List.mem_append.1 hx with h | h
            · exact .inr h
            · exact .inl (by simpa using h)
          have HSK := Lib.hid (show Seek n next (fun s => s < init) seen s from ⟨hsk.len, hsk.rch, fun x hx => hsk.pen x (by simp [hx])⟩)
          have HCL := Lib.hid hcl'
          have HSI := Lib.hid hsi
          have HTC := Lib.hid htc
          have HGK := Lib.hid hgk
          have HCS := Lib.hid hcs
          have HVP := Lib.hid hVp
          have HBA := Lib.hid (blk_far bA (p := ⟨S + 1, 0, none⟩) (by show S + 1 ≠ w.heap.size; omega) (.slice (some ⟨g, 0, none⟩) s.length cap))
          have cA2 := blk_cell HBA.out (i := 2) rfl
          have HEE := Lib.hid (ext_st hE (p := ⟨S + 1, 0, none⟩) (by show w.heap.size ≤ S + 1; omega) (.slice (some ⟨g, 0, none⟩) s.length cap))
          have cx2 := cell_later HEE.out hx
          have hsl : s.length ≤ 20000 := by
            have := List.count_le_length (a := true) (l := seen)
            have := hsk.len
            simp only [List.length_append, List.length_singleton] at htc
            omega
          have hcI : (c : Int) < (next.length : Int) := by omega
          clear hcl' hri hri1 hri2 hx b1 hV bA hE hsk hcl htc hsi hgk hcs hVp
          unfold maxLen at hcm
          go_wp2_with fail
          generalize wr.setCell ⟨S + 1, 0, none⟩ (.slice (some ⟨g, 0, none⟩) s.length cap) = W4 at *
          clear cT fT cg cA2 cx2
          obtain ⟨G0, rfl⟩ : ∃ G0 : Nat, G0 = gk := ⟨_, rfl⟩
          go_loopg [51] l.length (fun m x wi => ∃ (k : Nat) (τ : Nat → Nat) (seen : List Bool) (todo : List Int), m + k = l.length ∧ x = .int .i64 (k : Int) ∧ VMem τ (S + 2) S (S + 1) D n wi seen todo ∧
            wi.heap[w.heap.size]? = some (.cells #[.slice asp n csp, .int .i64 (init : Int), .slice (some ⟨bn, on, none⟩) next.length cx, .slice at' sets.length ct, .int .i64 (M : Int)] 70 (0, 0)) ∧ Ext w wi ∧
            Seek n next (fun s => s < init) seen todo ∧ Closed next seen todo (some (c, k)) ∧ todo.length ≤ seen.count true ∧ (∀ s, s < init → seen[s]? = some true) ∧ seen[c]? = some true ∧ 2 * (n - seen.count true) + todo.length < G0)
          case atStart => exact ⟨0, τ, seen, s, by omega, by go_num, HVP.out, HBA.out, HEE.out, HSK.out, HCL.out, by have := HTC.out; simp only [List.length_append, List.length_singleton] at this; omega, HSI.out, HCS.out, by have := HGK.out; simp only [List.length_append, List.length_singleton] at this; omega⟩
          case round =>
            clear HVP HBA HEE HSK HCL HTC HSI HCS HGK hsl
            obtain ⟨k, τ, seen, todo, hmk, rfl, hV, bA, hE, hsk, hcl, htc, hsi, hcs, hR⟩ := hrel
            have hcn2 : todo.length ≤ n := by have := List.count_le_length (a := true) (l := seen); have := hsk.len; omega
            have HV := Lib.hid hV
            have BA := Lib.hid bA
            have HE := Lib.hid hE
            have HM := Lib.hid hmk
            have hVo := hV.ord
            have HVO := Lib.hid hVo
            by_cases hk : k < l.length
            · obtain rfl := HI1.out (by omega)
              have ck := cell_later hE (HI2.out k hk)
              obtain ⟨hy0, hy1⟩ := HLI.out l[k] (by simp)
              obtain ⟨y, hy⟩ : ∃ y : Nat, l[k] = (y : Int) := ⟨l[k].toNat, by omega⟩
              rw [hy] at ck hy0 hy1
              have hyn : y < n := by omega
              have hlk : l[k]? = some (y : Int) := by rw [List.getElem?_eq_getElem hk, hy]
              have hed : Edge next c y := ⟨l, HL.out, List.mem_of_getElem? hlk⟩
              have hyr : ∃ s, s < init ∧ Reach next s y := by
                obtain ⟨s, h1, h2⟩ := hsk.rch c hcs
                exact ⟨s, h1, h2.step hed⟩
              have HVS := Lib.hid (vis_seek hsk hcl hyr hyn)
              have HLK := Lib.hid hlk
              have HSI := Lib.hid hsi
              have HTC := Lib.hid htc
              have HCS := Lib.hid hcs
              have HR := Lib.hid hR
              have hkI : (k : Int) < (l.length : Int) := by omega
              clear hV bA hE hsk hcl hsi htc hcs hR hmk hVo hed hyr hlk hy
              go_wp2_with fail
              refine (visit_any τ (S + 2) S (S + 1) D n wr seen todo y HV.out hyn (by omega)).mono ?_
              rintro e w5 ⟨rfl, ⟨τ', hV'⟩, hB⟩
              have HV' := Lib.hid hV'
              have HB := Lib.hid hB
              clear hV' hB
              go_wp2_with fail
              go_roundg (gk - 1)
              case measure => have := HM.out; omega
              case rel =>
                have hDw : w.heap.size < D ∧ D < S := ⟨by omega, HVO.out.1⟩
                exact ⟨k + 1, τ', _, _, by have := HM.out; omega, by go_num, HV'.out, blk_below BA.out HB.out (by omega), Below.trans HE.out (HB.out.mono (by omega)), HVS.out.1, HVS.out.2.1.next HL.out HLK.out HVS.out.2.2.1, HVS.out.2.2.2.2.2 HTC.out, fun s hs => HVS.out.2.2.2.1 s (HSI.out s hs), HVS.out.2.2.2.1 c HCS.out, Nat.lt_of_le_of_lt HVS.out.2.2.2.2.1 HR.out⟩
            · obtain rfl : k = l.length := by omega
              have HSK := Lib.hid hsk
              have HCL := Lib.hid (hcl.done HL.out)
              have HSI := Lib.hid hsi
              have HTC := Lib.hid htc
              have HR := Lib.hid hR
              clear hV bA hE hsk hcl hsi htc hcs hR hmk hVo
              go_wp2_with fail
              go_roundg (2 * (n - seen.count true) + todo.length)
              case measure => exact HR.out
              case rel => exact ⟨τ, seen, todo, rfl, HV.out, BA.out, HE.out, HSK.out, HCL.out, HTC.out, HSI.out⟩

end Go.Proofs.YtkkbefhnklpfaaaDoor

namespace Go.Proofs.YtkkbefhnklpfaaaDoor
open Go.RowKit

theorem row_cells {α : Type} {f : α → Value} {w : World} {a : Option Addr} {n c : Nat} {l : List α} (h : Row w 1 a n c (l.map f)) : ∃ b off, (0 < l.length → a = some ⟨b, off, none⟩) ∧ ∀ (i : Nat) (hi : i < l.length), w.cell? ⟨b, off + i, none⟩ = some (f l[i]) := by
  obtain ⟨b, off, _, h2, h3⟩ := h.lie
  exact ⟨b, off, fun hl => h2 (by simpa using hl), fun i hi => h3 i _ (by rw [List.getElem?_map, List.getElem?_eq_getElem hi]; rfl)⟩

end Go.Proofs.YtkkbefhnklpfaaaDoor
