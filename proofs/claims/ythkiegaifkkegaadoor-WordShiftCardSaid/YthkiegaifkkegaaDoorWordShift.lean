/- The law WordShift. -/
import Derived.Test.YthkiegaifkkegaaDoorWordL
import Derived.Test.YthkiegaifkkegaaDoorRgT
import Derived.Test.YthkiegaifkkegaaDoorShut
import Derived.Deep.DeepCutAuto
import Derived.Deep.RegionLaw
namespace Go.Proofs.YthkiegaifkkegaaDoor
open Go.RowKit
theorem fm_one : Fm (.n0 11 0) 1 0 := ⟨⟨by omega, by omega, by decide⟩, fun o ho => by
  simp only [Tm.flat, List.mem_singleton] at ho
  subst ho
  exact ⟨by simp, by simp, fun h => by simp at h, fun _ => rfl⟩, Nat.le_refl _, by simp [Tm.flat, cntA, aheadB]⟩
theorem EachB.split {w : World} {x : Value} {xs : List Value} {l : List Bool} {ls : List (List Bool)} (h : EachB w (x :: xs) (l :: ls)) : EachB w [x] [l] ∧ EachB w xs ls := by
  refine ⟨⟨rfl, fun i y m h1 h2 => ?_⟩, by simpa using h.1, fun i y m h1 h2 => h.2 (i + 1) y m (by simpa using h1) (by simpa using h2)⟩
  cases i with
  | zero => exact h.2 0 y m (by simpa using h1) (by simpa using h2)
  | succ i => simp at h1
set_option maxRecDepth 100000 in
set_option maxHeartbeats 400000 in
theorem wordShift_law (v0 : Value) (cs : Array Value) (W : World) (ht : Tab W) (h0 : Cells Tryd.prog W 22 [v0]) (hs : Cells Tryd.prog W 25 cs.toList) :
    Calls Tryd.prog 4 #[v0, .agg cs] W fun e w' => e = .returned (.bool true) ∧ Ext W w' := by
  obtain ⟨raw0, o0, hraw0⟩ := raw_for h0
  obtain ⟨aS, aL, cS, cL, S, L, rfl, hS, hL, iS, iL⟩ := spell_of hs
  have EE := ext_al (Ext.refl W) (Obj.cells #[.slice aS S.length cS, .slice aL L.length cL] 25)
  have TB := ht.ext EE
  have HWA := Lib.hid (word_any _ _ S L _ (hS.ext EE) (hL.ext EE) iS iL)
  have WOK := Lib.hid (word_ok S L)
  replace o0 := ops_ext o0 EE
  have M0 := Lib.hid (show ∀ w, Ops w v0 raw0 → Calls Tryd.prog 7 #[v0, .int .i64 3, .int .i64 4] w (fun e w' => ∃ v', e = .returned v' ∧ w'.ownsRow w.heap.size 41 2 v' (forO raw0 3 4).flat.length ((forO raw0 3 4).flat.flatMap opc) ∧ Ext w w') from fun w h => mkFormula v0 raw0 3 4 w h hraw0 (by omega) (by omega) (by omega))
  have F0 := Lib.hid (fm_for raw0 4)
  generalize forO raw0 3 4 = t0 at *
  have hs0 := F0.out.size
  generalize letsL S = Sm at *
  generalize loopW L = Lp at *
  clear ht hs hS hL iS iL h0 hraw0
  go_enter Tryd.func4, Tryd.ntmps4
  go_wp2_with fail
  generalize W.alloc (Obj.cells #[.slice aS S.length cS, .slice aL L.length cL] 25) = w0 at *
  refine HWA.out.mono ?_
  rintro e wn ⟨sv, lv, rfl, WW, hE⟩
  clear HWA
  replace o0 := ops_ext o0 hE
  replace TB := TB.ext hE
  replace EE := EE.trans hE
  clear hE
  obtain ⟨xsS, xeS, axS, cxS, rfl, xrS⟩ := WW.st
  obtain ⟨xsL, xeL, axL, cxL, rfl, xrL⟩ := WW.lp
  have l1 := WOK.out.l1
  have l12 := WOK.out.l12
  have s12 := WOK.out.s12
  go_wp2_with fail
  have hE := ext_al (Ext.refl wn) (Obj.cells #[.slice axS Sm.length cxS, .slice axL Lp.length cxL] 28)
  have hbk := blk_new wn (Obj.cells #[.slice axS Sm.length cxS, .slice axL Lp.length cxL] 28)
  have c0 := blk_cell hbk (i := 0) (v := .slice axS Sm.length cxS) rfl
  have c1 := blk_cell hbk (i := 1) (v := .slice axL Lp.length cxL) rfl
  clear hbk
  generalize hwB : wn.heap.size = wB at *
  clear hwB
  generalize hwn : wn.alloc (Obj.cells #[.slice axS Sm.length cxS, .slice axL Lp.length cxL] 28) = wn2 at *
  clear hwn
  have cur := And.intro c0 c1
  clear c0 c1
  replace o0 := ops_ext o0 hE
  replace WW := WW.ext hE
  replace TB := TB.ext hE
  replace EE := EE.trans hE
  replace xrL := xrL.ext hE
  replace xrS := xrS.ext hE
  replace xeL := xeL.ext hE
  replace xeS := xeS.ext hE
  clear hE
  refine (M0.out _ o0).mono ?_
  rintro e wn ⟨u0, rfl, hown, hE⟩
  have A0 := isT_own hown
  obtain ⟨a0, m0, c0, rfl⟩ := A0.val
  clear hown o0 M0
  replace WW := WW.ext hE
  replace TB := TB.ext hE
  replace cur := two_later hE cur
  replace EE := EE.trans hE
  replace xrL := xrL.ext hE
  replace xrS := xrS.ext hE
  replace xeL := xeL.ext hE
  replace xeS := xeS.ext hE
  clear hE
  obtain ⟨bz, hbz⟩ : ∃ b, satB ⟨Sm ++ Lp, Sm.length⟩ (.n1 14 0 t0) 0 = b := ⟨_, rfl⟩
  have EZ := Lib.hid hbz
  clear hbz
  have HYES := Lib.hid (show satB ⟨Sm ++ Lp, Sm.length⟩ (.n0 11 0) 0 = true from satB_yes _ 0 0)
  have q0 := cell_later (ext_al (Ext.refl wn) (Obj.cells #[.slice none 0 0, .slice none 0 0] 28)) cur.1
  go_upto_if 21 with fail
  have hbV := blk_new wn (Obj.cells #[.slice none 0 0, .slice none 0 0] 28)
  have hxV := ext_al (Ext.refl wn) (Obj.cells #[.slice none 0 0, .slice none 0 0] 28)
  generalize wn.alloc (Obj.cells #[.slice none 0 0, .slice none 0 0] 28) = wv at *
  go_cut [] (fun wx => ∃ a n c a' n' c' Sv Lv, Ext wn wx ∧ wx.heap[wn.heap.size]? = some (.cells #[.slice a n c, .slice a' n' c'] 28 (0, 0)) ∧ IsW wx (.slice a n c) (.slice a' n' c') Sv Lv ∧ WdOk Sv Lv 3 ∧ satB ⟨Sv ++ Lv, Sv.length⟩ t0 0 = bz)
  case first =>
    by_cases hm : 0 < Sm.length
    · have hmI : (0 : Int) < (Sm.length : Int) := by omega
      obtain ⟨z0, zt, rfl⟩ : ∃ z0 zt, xsS = z0 :: zt := by
        cases xsS with
        | nil => have := xrS.len; simp at this; omega
        | cons a l => exact ⟨a, l, rfl⟩
      obtain ⟨m0, mt, rfl⟩ : ∃ m0 mt, Sm = m0 :: mt := by
        cases Sm with
        | nil => simp at hm
        | cons a l => exact ⟨a, l, rfl⟩
      obtain ⟨bS, oS, rfl⟩ : ∃ bS oS, axS = some ⟨bS, oS, none⟩ := by
        obtain ⟨b, o, _, h2, _⟩ := xrS.lie
        exact ⟨b, o, h2 (by simp)⟩
      have hcx := xrS.le
      have hcm := xrS.max
      unfold maxLen at hcm
      have hrT : Row wn 1 (if cxS = 1 then some ⟨bS, oS, none⟩ else some ⟨bS, oS + 1, none⟩) mt.length (cxS - 1) zt := by
        simp only [List.length_cons] at hcx xrS
        by_cases hc : cxS = 1
        · rw [if_pos hc]
          have h1 := xrS.len
          simp at h1
          obtain rfl : zt = [] := by cases zt with | nil => rfl | cons => simp at h1; omega
          have h0 : mt.length = 0 := by simp at h1; omega
          rw [h0]
          exact ⟨rfl, by omega, by unfold maxLen; omega, bS, oS, (by intro h; cases h), (by intro h; simp at h), (by intro j u h; simp at h)⟩
        · rw [if_neg hc]
          have := xrS.dropT 1 (by omega)
          simpa using this
      obtain ⟨aT, haT⟩ : ∃ aT, (if cxS = 1 then (some ⟨bS, oS, none⟩ : Option Addr) else some ⟨bS, oS + 1, none⟩) = aT := ⟨_, rfl⟩
      rw [haT] at hrT
      have HAT := Lib.hid haT
      clear haT
      have hwd : WdOk mt Lp 3 := ⟨by simp at s12; omega, l1, l12, fun x hx => WOK.out.let' x (by
        rcases List.mem_append.1 hx with h | h
        · exact List.mem_append_left _ (List.mem_cons_of_mem _ h)
        · exact List.mem_append_right _ h)⟩
      have hsat : satB ⟨mt ++ Lp, mt.length⟩ t0 0 = bz := by rw [← EZ.out]; exact (word_tail mt Lp m0 (by omega) 0 t0).symm
      have HWD := Lib.hid hwd
      have HSAT := Lib.hid hsat
      have hxe := xeS.split.2
      clear hwd hsat xeS xrS
      simp only [List.length_cons] at *
      go_upto_region 5 with fail
      refine wp_region_ops (by kernel_rfl) (X := World) id (fun x => Ext wv x) (fun i x x' => True)
        (fun i v _ x => match i with
          | 0 => v = .pointer (some ⟨wB, 0, none⟩)
          | 1 => v = .slice (some ⟨bS, oS, none⟩) (mt.length + 1) cxS
          | 2 => v = .slice aT mt.length (cxS - 1)
          | 3 => v = .pointer (some ⟨wB, 1, none⟩)
          | 4 => v = .slice axL Lp.length cxL
          | 5 => v = .agg #[.slice aT mt.length (cxS - 1), .slice axL Lp.length cxL]
          | _ => ∃ a n c a' n' c' Sv Lv, Ext wn x ∧ x.heap[wn.heap.size]? = some (.cells #[.slice a n c, .slice a' n' c'] 28 (0, 0)) ∧ IsW x (.slice a n c) (.slice a' n' c') Sv Lv ∧ WdOk Sv Lv 3 ∧ satB ⟨Sv ++ Lv, Sv.length⟩ t0 0 = bz)
        (fun j => none) (some 6) wv.drew rfl (by kernel_rfl) (by kernel_rfl) (Below.drew (Ext.refl wv)) ?_ (by kernel_rfl) ?_ ?_
      · intro i j v vs x x' hi hjl hji ha hc hR hj
        match j, hjl, hji, ha, hj with
        | 0, _, _, _, hj | 1, _, _, _, hj | 2, _, _, _, hj | 3, _, _, _, hj | 4, _, _, _, hj | 5, _, _, _, hj => exact hj
        | 6, _, hji, ha, _ => exact last_anc (by kernel_rfl) hi hji ha
        | n + 7, hjl, _, _, _ => exact absurd hjl (by simp)
      · refine StepsL.more (fun f x A hA hS hJ K hK => ?_) ?_
        · have e5 : A.tmps[5]? = some (.pointer (some ⟨wB, 0, none⟩)) := hA 5 rfl
          clear hA hJ
          exact wp_val (v := .pointer (some ⟨wB, 0, none⟩)) (w' := x) (by go_simp) (hK _ x (fun _ => hS) trivial rfl)
        refine StepsL.more (fun f x A hA hS hJ K hK => ?_) ?_
        · have e0 : f 0 = .pointer (some ⟨wB, 0, none⟩) := hJ 0 (by kernel_rfl) (by kernel_rfl)
          have e22 : A.tmps[22]? = some (f 0) := hA 22 rfl
          rw [e0] at e22
          have hc1 := cell_later (hxV.trans hS) cur.1
          clear hA hJ
          exact wp_val (v := .slice (some ⟨bS, oS, none⟩) (mt.length + 1) cxS) (w' := x) (by go_simp) (hK _ x (fun _ => hS) trivial rfl)
        refine StepsL.more (fun f x A hA hS hJ K hK => ?_) ?_
        · have e1 : f 1 = .slice (some ⟨bS, oS, none⟩) (mt.length + 1) cxS := hJ 1 (by kernel_rfl) (by kernel_rfl)
          have e23 : A.tmps[23]? = some (f 1) := hA 23 rfl
          rw [e1] at e23
          clear hA hJ
          exact wp_val (v := .slice aT mt.length (cxS - 1)) (w' := x) (by go_simp; rw [if_pos (by omega), HAT.out]) (hK _ x (fun _ => hS) trivial rfl)
        refine StepsL.more (fun f x A hA hS hJ K hK => ?_) ?_
        · have e5 : A.tmps[5]? = some (.pointer (some ⟨wB, 0, none⟩)) := hA 5 rfl
          clear hA hJ
          exact wp_val (v := .pointer (some ⟨wB, 1, none⟩)) (w' := x) (by go_simp) (hK _ x (fun _ => hS) trivial rfl)
        refine StepsL.more (fun f x A hA hS hJ K hK => ?_) ?_
        · have e3 : f 3 = .pointer (some ⟨wB, 1, none⟩) := hJ 3 (by kernel_rfl) (by kernel_rfl)
          have e25 : A.tmps[25]? = some (f 3) := hA 25 rfl
          rw [e3] at e25
          have hc1 := cell_later (hxV.trans hS) cur.2
          clear hA hJ
          exact wp_val (v := .slice axL Lp.length cxL) (w' := x) (by go_simp) (hK _ x (fun _ => hS) trivial rfl)
        refine StepsL.more (fun f x A hA hS hJ K hK => ?_) ?_
        · have e2 : f 2 = .slice aT mt.length (cxS - 1) := hJ 2 (by kernel_rfl) (by kernel_rfl)
          have e4 : f 4 = .slice axL Lp.length cxL := hJ 4 (by kernel_rfl) (by kernel_rfl)
          have e24 : A.tmps[24]? = some (f 2) := hA 24 rfl
          have e26 : A.tmps[26]? = some (f 4) := hA 26 rfl
          rw [e2] at e24
          rw [e4] at e26
          clear hA hJ
          exact wp_val (v := .agg #[.slice aT mt.length (cxS - 1), .slice axL Lp.length cxL]) (w' := x) (by go_simp) (hK _ x (fun _ => hS) trivial rfl)
        refine StepsL.more (fun f x A hA hS hJ K hK => ?_) ?_
        · have e5 : f 5 = .agg #[.slice aT mt.length (cxS - 1), .slice axL Lp.length cxL] := hJ 5 (by kernel_rfl) (by kernel_rfl)
          have e27 : A.tmps[27]? = some (f 5) := hA 27 rfl
          have e7 : A.tmps[7]? = some (.pointer (some ⟨wn.heap.size, 0, none⟩)) := hA 7 rfl
          rw [e5] at e27
          have hb0 := blk_ext hbV hS
          have hc0 := blk_cell hb0 (i := 0) rfl
          have hc1 := blk_cell hb0 (i := 1) rfl
          have hf0 := blk_free hb0 0
          have hf1 := blk_free hb0 1
          clear hA hJ
          refine wp_skip (w' := (x.setCell ⟨wn.heap.size, 0, none⟩ (.slice aT mt.length (cxS - 1))).setCell ⟨wn.heap.size, 1, none⟩ (.slice axL Lp.length cxL)) (by go_simp) (hK _ _ (fun h => absurd rfl h) trivial ?_)
          have h1 := blk_set (blk_set hb0 (i := 0) (.slice aT mt.length (cxS - 1))) (i := 1) (.slice axL Lp.length cxL)
          have hx1 := ext_st (ext_st (hxV.trans hS) (p := ⟨wn.heap.size, 0, none⟩) (Nat.le_refl _) (.slice aT mt.length (cxS - 1))) (p := ⟨wn.heap.size, 1, none⟩) (Nat.le_refl _) (.slice axL Lp.length cxL)
          exact ⟨_, _, _, _, _, _, mt, Lp, hx1, h1, ⟨⟨zt, hxe.ext hx1, _, _, rfl, hrT.ext hx1⟩, ⟨xsL, xeL.ext hx1, _, _, rfl, xrL.ext hx1⟩⟩, HWD.out, HSAT.out⟩
        exact StepsL.done
      · intro f x _ hJ
        have h11 := hJ 6 (by decide) rfl
        simp only [allL]
        go_simp
        go_wp2_with fail
        go_meet
        exact h11
    · have hm0 : Sm.length = 0 := by omega
      have hmI : ¬ (0 : Int) < (Sm.length : Int) := by omega
      obtain rfl : Sm = [] := List.eq_nil_of_length_eq_zero hm0
      clear hm hm0
      obtain ⟨k0, kt, rfl⟩ : ∃ k0 kt, Lp = k0 :: kt := by
        cases Lp with
        | nil => simp at l1
        | cons a l => exact ⟨a, l, rfl⟩
      obtain ⟨y0, yt, rfl⟩ : ∃ y0 yt, xsL = y0 :: yt := by
        cases xsL with
        | nil => have := xrL.len; simp at this
        | cons a l => exact ⟨a, l, rfl⟩
      obtain ⟨ay, ny, cy, rfl⟩ : ∃ a n c, y0 = .slice a n c := by
        obtain ⟨a, c, e, _⟩ := xeL.2 0 _ k0 rfl rfl
        exact ⟨a, _, c, e⟩
      obtain ⟨bL, oL, rfl⟩ : ∃ bL oL, axL = some ⟨bL, oL, none⟩ := by
        obtain ⟨b, o, _, h2, _⟩ := xrL.lie
        exact ⟨b, o, h2 (by simp)⟩
      obtain ⟨nl, hnl⟩ : ∃ nl, kt.length = nl := ⟨_, rfl⟩
      have HNL := Lib.hid hnl
      simp only [List.length_cons, hnl] at xrL cur l12 ⊢
      clear hnl l1
      have hcx := xrL.le
      have hcm := xrL.max
      unfold maxLen at hcm
      have hrT : Row wn 1 (if cxL = 1 then some ⟨bL, oL, none⟩ else some ⟨bL, oL + 1, none⟩) nl (cxL - 1) yt := by
        by_cases hc : cxL = 1
        · rw [if_pos hc]
          obtain rfl : nl = 0 := by omega
          have := xrL.len
          obtain rfl : yt = [] := by cases yt with | nil => rfl | cons => simp at this
          exact ⟨rfl, by omega, by unfold maxLen; omega, bL, oL, (by intro h; cases h), (by intro h; simp at h), (by intro j u h; simp at h)⟩
        · rw [if_neg hc]
          have := xrL.dropT 1 (by omega)
          simpa using this
      obtain ⟨aT, haT⟩ : ∃ aT, (if cxL = 1 then (some ⟨bL, oL, none⟩ : Option Addr) else some ⟨bL, oL + 1, none⟩) = aT := ⟨_, rfl⟩
      rw [haT] at hrT
      have HAT := Lib.hid haT
      clear haT
      have hy0 : ∀ u ∈ (.slice ay ny cy) :: yt, u.oneCell' = true := xeL.one
      have d1 : wn.cell? ⟨bL, oL, none⟩ = some (.slice ay ny cy) := by simpa using xrL.cells 0 (.slice ay ny cy) rfl
      have HXE := Lib.hid (xeL.split.2.app xeL.split.1)
      have HWD := Lib.hid (show WdOk [] (kt ++ [k0]) 3 from ⟨by simp, by simp, by simp; have := HNL.out; omega, fun x hx => WOK.out.let' x (by simp at hx ⊢; rcases hx with h | h <;> simp [h])⟩)
      have HSAT := Lib.hid (show satB ⟨[] ++ (kt ++ [k0]), ([] : List (List Bool)).length⟩ t0 0 = bz by rw [← EZ.out]; exact (word_turn kt k0 0 t0).symm)
      clear xeL xeS WOK
      go_upto_region 6 with fail
      refine wp_region_ops (by kernel_rfl) (X := TW) Prod.snd (fun x => Ext wv x.2 ∧ ∀ b, b < wv.heap.size → x.1 b = 9) (fun i x x' => Nw wv.heap.size (if i = 9 then 1 else 7) x x')
        (fun i v _ x => match i with
          | 0 => v = .pointer (some ⟨wB, 1, none⟩)
          | 1 => v = .slice (some ⟨bL, oL, none⟩) (nl + 1) cxL
          | 2 => v = .slice aT nl (cxL - 1)
          | 3 => ∃ a c, v = .slice a nl c ∧ OwnT x.1 1 x.2 wv.heap.size 32 1 (.slice a nl c) nl yt
          | 4 => v = .pointer (some ⟨wB, 1, none⟩)
          | 5 => v = .slice (some ⟨bL, oL, none⟩) (nl + 1) cxL
          | 6 => v = .pointer (some ⟨bL, oL, none⟩)
          | 7 => v = (.slice ay ny cy)
          | 8 => ∃ b, v = .slice (some ⟨b, 0, none⟩) 1 1 ∧ EntB wv.heap.size 0 x fun y => Row y 1 (some ⟨b, 0, none⟩) 1 1 [(.slice ay ny cy)]
          | 9 => ∃ a c, v = .slice a (nl + 1) c ∧ OwnT x.1 1 x.2 wv.heap.size 32 1 (.slice a (nl + 1) c) (nl + 1) (yt ++ [(.slice ay ny cy)])
          | 10 => ∃ a c, v = .agg #[.slice none 0 0, .slice a (nl + 1) c] ∧ OwnT x.1 1 x.2 wv.heap.size 32 1 (.slice a (nl + 1) c) (nl + 1) (yt ++ [(.slice ay ny cy)])
          | _ => ∃ a n c a' n' c' Sv Lv, Ext wn x.2 ∧ x.2.heap[wn.heap.size]? = some (.cells #[.slice a n c, .slice a' n' c'] 28 (0, 0)) ∧ IsW x.2 (.slice a n c) (.slice a' n' c') Sv Lv ∧ WdOk Sv Lv 3 ∧ satB ⟨Sv ++ Lv, Sv.length⟩ t0 0 = bz)
        (fun j => if j = 3 then some 9 else if j = 8 then some 9 else if j = 9 then some 10 else if j = 10 then some 11 else none) (some 11) ((fun _ => 9), wv.drew) rfl (by kernel_rfl) (by kernel_rfl) ⟨Below.drew (Ext.refl wv), fun _ _ => rfl⟩ ?_ (by kernel_rfl) ?_ ?_
      · intro i j v vs x x' hi hjl hji ha hc hR hj
        match j, hjl, hji, ha, hc, hj with
        | 0, _, _, _, _, hj | 1, _, _, _, _, hj | 2, _, _, _, _, hj | 4, _, _, _, _, hj | 5, _, _, _, _, hj | 6, _, _, _, _, hj | 7, _, _, _, _, hj => exact hj
        | 3, _, _, _, hc, hj =>
          rw [if_neg (fun e => hc (by rw [e]; rfl))] at hR
          obtain ⟨a, c, e, h⟩ := hj
          exact ⟨a, c, e, Nw.own h hR (by omega)⟩
        | 8, _, _, _, hc, hj =>
          obtain ⟨b, e, h⟩ := hj
          exact ⟨b, e, Nw.ent h hR (by split <;> omega)⟩
        | 9, _, hji, _, hc, hj =>
          rw [if_neg (fun e => hji e.symm)] at hR
          obtain ⟨a, c, e, h⟩ := hj
          exact ⟨a, c, e, Nw.own h hR (by omega)⟩
        | 10, _, hji, ha, hc, hj =>
          rw [if_neg (fun e => anc_not (by subst e; kernel_rfl) ha)] at hR
          obtain ⟨a, c, e, h⟩ := hj
          exact ⟨a, c, e, Nw.own h hR (by omega)⟩
        | 11, _, hji, ha, _, _ => exact last_anc (by kernel_rfl) hi hji ha
        | n + 12, hj, _, _, _, _ => exact absurd hj (by simp)
      · refine StepsL.more (fun f x A hA hS hJ K hK => ?_) ?_
        · have e5 : A.tmps[5]? = some (.pointer (some ⟨wB, 0, none⟩)) := hA 5 rfl
          clear hA hJ
          exact wp_val (v := .pointer (some ⟨wB, 1, none⟩)) (w' := x.2) (by go_simp) (hK _ x (fun _ => hS) (Nw.refl x) rfl)
        refine StepsL.more (fun f x A hA hS hJ K hK => ?_) ?_
        · have e0 : f 0 = .pointer (some ⟨wB, 1, none⟩) := hJ 0 (by kernel_rfl) (by kernel_rfl)
          have e28 : A.tmps[28]? = some (f 0) := hA 28 rfl
          rw [e0] at e28
          have hc1 := cell_later (hxV.trans hS.1) cur.2
          clear hA hJ
          exact wp_val (v := .slice (some ⟨bL, oL, none⟩) (nl + 1) cxL) (w' := x.2) (by go_simp) (hK _ x (fun _ => hS) (Nw.refl x) rfl)
        refine StepsL.more (fun f x A hA hS hJ K hK => ?_) ?_
        · have e0 : f 1 = .slice (some ⟨bL, oL, none⟩) (nl + 1) cxL := hJ 1 (by kernel_rfl) (by kernel_rfl)
          have e29 : A.tmps[29]? = some (f 1) := hA 29 rfl
          rw [e0] at e29
          clear hA hJ
          exact wp_val (v := .slice aT nl (cxL - 1)) (w' := x.2) (by go_simp; rw [if_pos (by omega), HAT.out]) (hK _ x (fun _ => hS) (Nw.refl x) rfl)
        refine StepsL.more (fun f x A hA hS hJ K hK => ?_) ?_
        · have e2 : f 2 = .slice aT nl (cxL - 1) := hJ 2 (by kernel_rfl) (by kernel_rfl)
          have e30 : A.tmps[30]? = some (f 2) := hA 30 rfl
          rw [e2] at e30
          have hr := (hrT.ext hxV).ext hS.1
          clear hA hJ
          refine rg_new x.1 wv.heap.size 1 rfl Tryd.slBoolss rfl (ev_of e30) hr (fun u hu => hy0 u (List.mem_cons_of_mem _ hu)) (by unfold maxLen; omega) (by omega) hS.1.size ?_
          intro a c w' ho hE
          exact hK _ (tagAt x.1 x.2.heap.size 1, w') (fun _ => ⟨Ext.trans hS.1 hE, fun b hb => (tagAt_lt (Nat.lt_of_lt_of_le hb hS.1.size)).trans (hS.2 b hb)⟩) (Nw.call hE 1) ⟨a, c, rfl, ho⟩
        refine StepsL.more (fun f x A hA hS hJ K hK => ?_) ?_
        · have e5 : A.tmps[5]? = some (.pointer (some ⟨wB, 0, none⟩)) := hA 5 rfl
          clear hA hJ
          exact wp_val (v := .pointer (some ⟨wB, 1, none⟩)) (w' := x.2) (by go_simp) (hK _ x (fun _ => hS) (Nw.refl x) rfl)
        refine StepsL.more (fun f x A hA hS hJ K hK => ?_) ?_
        · have e4 : f 4 = .pointer (some ⟨wB, 1, none⟩) := hJ 4 (by kernel_rfl) (by kernel_rfl)
          have e32 : A.tmps[32]? = some (f 4) := hA 32 rfl
          rw [e4] at e32
          have hc1 := cell_later (hxV.trans hS.1) cur.2
          clear hA hJ
          exact wp_val (v := .slice (some ⟨bL, oL, none⟩) (nl + 1) cxL) (w' := x.2) (by go_simp) (hK _ x (fun _ => hS) (Nw.refl x) rfl)
        refine StepsL.more (fun f x A hA hS hJ K hK => ?_) ?_
        · have e5 : f 5 = .slice (some ⟨bL, oL, none⟩) (nl + 1) cxL := hJ 5 (by kernel_rfl) (by kernel_rfl)
          have e33 : A.tmps[33]? = some (f 5) := hA 33 rfl
          rw [e5] at e33
          clear hA hJ
          exact wp_val (v := .pointer (some ⟨bL, oL, none⟩)) (w' := x.2) (by go_simp) (hK _ x (fun _ => hS) (Nw.refl x) rfl)
        refine StepsL.more (fun f x A hA hS hJ K hK => ?_) ?_
        · have e6 : f 6 = .pointer (some ⟨bL, oL, none⟩) := hJ 6 (by kernel_rfl) (by kernel_rfl)
          have e34 : A.tmps[34]? = some (f 6) := hA 34 rfl
          rw [e6] at e34
          have hc1 := cell_later (hxV.trans hS.1) d1
          clear hA hJ
          exact wp_val (v := (.slice ay ny cy)) (w' := x.2) (by go_simp) (hK _ x (fun _ => hS) (Nw.refl x) rfl)
        refine StepsL.more (fun f x A hA hS hJ K hK => ?_) ?_
        · have e7 : f 7 = (.slice ay ny cy) := hJ 7 (by kernel_rfl) (by kernel_rfl)
          have e35 : A.tmps[35]? = some (f 7) := hA 35 rfl
          rw [e7] at e35
          clear hA hJ
          exact wp_val (v := .slice (some ⟨x.2.heap.size, 0, none⟩) 1 1) (w' := x.2.alloc (.cells #[.slice ay ny cy] 32)) (by go_simp) (hK _ (tagAt x.1 x.2.heap.size 0, x.2.alloc (.cells #[.slice ay ny cy] 32)) (fun _ => ⟨ext_al hS.1 _, fun b hb => (tagAt_lt (Nat.lt_of_lt_of_le hb hS.1.size)).trans (hS.2 b hb)⟩) (Nw.alloc x.1 x.2 _ 0) ⟨x.2.heap.size, rfl, EntB.row hS.1.size (fun b hb => by rw [hS.2 b hb]; omega) (Row.one _ _ _)⟩)
        refine StepsL.more (fun f x A hA hS hJ K hK => ?_) ?_
        · have e3 := hJ 3 (by kernel_rfl) (by kernel_rfl)
          have e8 := hJ 8 (by kernel_rfl) (by kernel_rfl)
          have e31 : A.tmps[31]? = some (f 3) := hA 31 rfl
          have e36 : A.tmps[36]? = some (f 8) := hA 36 rfl
          obtain ⟨a, c, e, ho⟩ := e3
          obtain ⟨b, e', hr⟩ := e8
          rw [e] at e31
          rw [e'] at e36
          clear hA hJ
          refine rg_append rfl Tryd.slBoolss (ev_of e31) ho (ev_of e36) hr.now (fun u hu => hy0 u (by simp at hu; subst hu; exact List.mem_cons_self ..)) (by unfold maxLen; omega) (by omega) hS.1.size ?_
          intro a' c' w' ho' hn hb
          exact hK _ (_, w') (fun _ => ⟨Below.trans hS.1 hb, fun b hb => (tagAt_lt (Nat.lt_of_lt_of_le hb hS.1.size)).trans (hS.2 b hb)⟩) hn ⟨a', c', rfl, ho'⟩
        refine StepsL.more (fun f x A hA hS hJ K hK => ?_) ?_
        · have e9 := hJ 9 (by kernel_rfl) (by kernel_rfl)
          have e37 : A.tmps[37]? = some (f 9) := hA 37 rfl
          obtain ⟨a, c, e, ho⟩ := e9
          rw [e] at e37
          clear hA hJ
          exact wp_val (v := .agg #[.slice none 0 0, .slice a (nl + 1) c]) (w' := x.2) (by go_simp) (hK _ x (fun _ => hS) (Nw.refl x) ⟨a, c, rfl, ho⟩)
        refine StepsL.more (fun f x A hA hS hJ K hK => ?_) ?_
        · have e10 := hJ 10 (by kernel_rfl) (by kernel_rfl)
          have e38 : A.tmps[38]? = some (f 10) := hA 38 rfl
          have e7 : A.tmps[7]? = some (.pointer (some ⟨wn.heap.size, 0, none⟩)) := hA 7 rfl
          obtain ⟨a, c, e, ho⟩ := e10
          rw [e] at e38
          have hb0 := blk_ext hbV hS.1
          have hc0 := blk_cell hb0 (i := 0) rfl
          have hc1 := blk_cell hb0 (i := 1) rfl
          have hf0 := blk_free hb0 0
          have hf1 := blk_free hb0 1
          clear hA hJ
          refine wp_skip (w' := (x.2.setCell ⟨wn.heap.size, 0, none⟩ (.slice none 0 0)).setCell ⟨wn.heap.size, 1, none⟩ (.slice a (nl + 1) c)) ?_ (hK _ (x.1, (x.2.setCell ⟨wn.heap.size, 0, none⟩ (.slice none 0 0)).setCell ⟨wn.heap.size, 1, none⟩ (.slice a (nl + 1) c)) (fun h => absurd rfl h) ?_ ?_)
          · go_simp
          · exact ⟨by simp, fun _ _ => rfl, fun b h1 _ _ => (Below.heap_setCell _ _ _ _ (by have := blk_lt hbV; show b ≠ wn.heap.size; omega)).trans (Below.heap_setCell _ _ _ _ (by have := blk_lt hbV; show b ≠ wn.heap.size; omega))⟩
          · have h1 := blk_set (blk_set hb0 (i := 0) (.slice none 0 0)) (i := 1) (.slice a (nl + 1) c)
            have hx1 := ext_st (ext_st (hxV.trans hS.1) (p := ⟨wn.heap.size, 0, none⟩) (Nat.le_refl _) (.slice none 0 0)) (p := ⟨wn.heap.size, 1, none⟩) (Nat.le_refl _) (.slice a (nl + 1) c)
            have hr := (Nw.own (Nw.own ho (Nw.store (t := 7) x.1 x.2 (p := ⟨wn.heap.size, 0, none⟩) (blk_lt hbV) (.slice none 0 0)) (by omega)) (Nw.store (t := 7) x.1 _ (p := ⟨wn.heap.size, 1, none⟩) (blk_lt hbV) (.slice a (nl + 1) c)) (by omega)).reads
            exact ⟨none, 0, 0, a, nl + 1, c, [], kt ++ [k0], hx1, h1, ⟨⟨[], ⟨rfl, by intro i y l h; simp at h⟩, Reads.nil _ _⟩, ⟨yt ++ [.slice ay ny cy], HXE.out.ext hx1, by rw [show (kt ++ [k0]).length = nl + 1 by simp; exact HNL.out]; exact hr⟩⟩, HWD.out, HSAT.out⟩
        exact StepsL.done
      · intro f x _ hJ
        have h11 := hJ 11 (by decide) rfl
        simp only [allL]
        go_simp
        go_wp2_with fail
        go_meet
        exact h11
  case rest =>
    obtain ⟨av, nv, cv, aw, nw, cw, Sv, Lv, hE, hbW, WV, WVOK, hsv⟩ := hcut
    have EV := Lib.hid hsv
    clear hsv hbV hxV xrL xrS xeL xeS l1 l12 s12
    replace WW := WW.ext hE
    replace A0 := A0.ext hE
    replace TB := TB.ext hE
    replace cur := two_later hE cur
    replace EE := EE.trans hE
    clear hE
    have hg0 := blk_cell hbW (i := 0) (v := .slice av nv cv) rfl
    have hg1 := blk_cell hbW (i := 1) (v := .slice aw nw cw) rfl
    have dur := And.intro hg0 hg1
    clear hg0 hg1 hbW q0
    generalize wn.heap.size = wV at *
    go_upto_region 7 with fail
    go_region_held3 (fun w' => w'.cell? ⟨wB, 0, none⟩ = some (.slice axS Sm.length cxS) ∧ w'.cell? ⟨wB, 1, none⟩ = some (.slice axL Lp.length cxL))
      (first | exact cur | exact two_drew cur | exact two_alloc cur | exact two_drew (two_alloc cur) | exact two_drew (two_alloc (two_alloc cur)) | go_keep)
      (first
        | (go_at_call 9
           refine (joinD1 14 _ _ _ _ A0 (by first | omega | (simp only [Tm.size]; omega))).mono ?_
           rintro e wn ⟨vj, rfl, J1, hE⟩
           obtain ⟨ajJ1, mjJ1, cjJ1, rfl⟩ := J1.val
           replace WW := WW.ext hE
           replace WV := WV.ext hE
           replace A0 := A0.ext hE
           replace TB := TB.ext hE
           replace cur := two_later hE cur
           replace dur := two_later hE dur
           replace EE := EE.trans hE
           clear hE)
        | (go_at_call 10
           refine (holds_b _ _ _ _ Sm Lp _ _ J1 TB (F0.out.one 14 18 5 (.inr ⟨by omega, by omega⟩) (by omega)) (by omega) (by omega) WW WOK.out EZ.out).mono ?_
           rintro e wn ⟨rfl, hE⟩
           replace WW := WW.ext hE
           replace WV := WV.ext hE
           replace A0 := A0.ext hE
           replace TB := TB.ext hE
           replace cur := two_later hE cur
           replace dur := two_later hE dur
           replace EE := EE.trans hE
           clear hE
           clear J1))
    have q0 := dur.1
    have q1 := dur.2
    go_wp2_with fail
    clear q0 q1
    refine (holds_b _ _ _ _ Sv Lv _ _ A0 TB F0.out (by omega) (by omega) WV WVOK EV.out).mono ?_
    rintro e wn ⟨rfl, hE⟩
    replace WW := WW.ext hE
    replace TB := TB.ext hE
    replace cur := two_later hE cur
    replace EE := EE.trans hE
    clear hE
    have hE := ext_al (Ext.refl wn) (Obj.cells #[.int .i64 11, .int .i64 0] 41)
    have AY : IsT (wn.alloc (Obj.cells #[.int .i64 11, .int .i64 0] 41)) (.slice (some ⟨wn.heap.size, 0, none⟩) 1 1) (.n0 11 0) := ⟨_, _, rfl, Row.newOp _ _ _ _⟩
    replace WW := WW.ext hE
    replace TB := TB.ext hE
    replace cur := two_later hE cur
    have q0 := cur.1
    have q1 := cur.2
    replace EE := EE.trans hE
    clear hE cur
    go_wp2_with fail
    clear q0 q1
    refine (holds_b _ _ _ _ Sm Lp _ _ AY TB fm_one (by omega) (by omega) WW WOK.out HYES.out).mono ?_
    rintro e wn ⟨rfl, hE⟩
    replace EE := EE.trans hE
    clear hE
    cases bz
    all_goals
      go_wp2
      go_ret
      exact ⟨rfl, EE⟩
end Go.Proofs.YthkiegaifkkegaaDoor
