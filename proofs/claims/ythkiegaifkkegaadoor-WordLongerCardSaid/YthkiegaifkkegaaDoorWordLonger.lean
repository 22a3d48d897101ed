/- The law WordLonger. -/
import Derived.Test.YthkiegaifkkegaaDoorWordL
import Derived.Test.YthkiegaifkkegaaDoorRgT
import Derived.Test.YthkiegaifkkegaaDoorShut
import Derived.Deep.DeepCutAuto
import Derived.Deep.RegionLaw
namespace Go.Proofs.YthkiegaifkkegaaDoor
open Go.RowKit

theorem fm_one : Fm (.n0 11 0) 1 0 := ⟨⟨by omega, by omega, by decide⟩, fun o ho => by
  simp only [Tm.flat, List.mem_singleton] at ho
  subst ho
  exact ⟨by simp, by simp, fun h => by simp at h, fun _ => rfl⟩, Nat.le_refl _, by simp [Tm.flat, cntA, aheadB]⟩
/-- A new block that is not written again. -/
theorem EntB.blk {B s : Nat} {τ : Nat → Nat} {w : World} {o : Obj} (hB : B ≤ w.heap.size) (ho : ∀ b, b < B → τ b ≠ s) (hn : (w.alloc o).heap[w.heap.size]? = some o) : EntB B s (tagAt τ w.heap.size s, w.alloc o) fun y => y.heap[w.heap.size]? = some o :=
  ⟨fun y hy hb => by rw [hb _ (by simp) (tagAt_ge (Nat.le_refl _))]; exact hn, fun b hb => by show tagAt τ w.heap.size s b ≠ s; rw [tagAt_lt (Nat.lt_of_lt_of_le hb hB)]; exact ho b hb, by simp; omega⟩

theorem EachB.split {w : World} {x : Value} {xs : List Value} {l : List Bool} {ls : List (List Bool)} (h : EachB w (x :: xs) (l :: ls)) : EachB w [x] [l] ∧ EachB w xs ls := by
  refine ⟨⟨rfl, fun i y m h1 h2 => ?_⟩, by simpa using h.1, fun i y m h1 h2 => h.2 (i + 1) y m (by simpa using h1) (by simpa using h2)⟩
  cases i with
  | zero => exact h.2 0 y m (by simpa using h1) (by simpa using h2)
  | succ i => simp at h1

set_option maxRecDepth 100000 in
set_option maxHeartbeats 400000 in
theorem wordLonger_law (v0 : Value) (cs : Array Value) (W : World) (ht : Tab W) (h0 : Cells Tryd.prog W 22 [v0]) (hs : Cells Tryd.prog W 25 cs.toList) :
    Calls Tryd.prog 5 #[v0, .agg cs] W fun e w' => e = .returned (.bool true) ∧ Ext W w' := by
  obtain ⟨raw0, o0, hraw0⟩ := raw_for h0
  obtain ⟨aS, aL, cS, cL, S, L, rfl, hS, hL, iS, iL⟩ := spell_of hs
  have EE := ext_al (Ext.refl W) (Obj.cells #[.slice aS S.length cS, .slice aL L.length cL] 25)
  have TB := ht.ext EE
  have HWA := Lib.hid (word_any _ _ S L _ (hS.ext EE) (hL.ext EE) iS iL)
  have WOK := Lib.hid (word_ok S L)
  replace o0 := ops_ext o0 EE
  have M0 := Lib.hid (show ∀ w, Ops w v0 raw0 → Calls Tryd.prog 7 #[v0, .int .i64 3, .int .i64 4] w (fun e w' => ∃ v', e = .returned v' ∧ w'.ownsRow w.heap.size 41 2 v' (forO raw0 3 4).flat.length ((forO raw0 3 4).flat.flatMap opc) ∧ Ext w w') from fun w h => mkFormula v0 raw0 3 4 w h hraw0 (by omega) (by omega) (by omega))
  have F0 := Lib.hid (fm_for raw0 4)
  generalize forO raw0 3 4 = t0 at *
  have hs0 := F0.out.size
  have hs5 : (letsL S).length ≤ 5 := by rw [letsL_len]; omega
  have hl5 : (loopW L).length ≤ 5 := by
    unfold loopW
    split
    · simp
    · rw [letsL_len]; omega
  generalize letsL S = Sm at *
  generalize loopW L = Lp at *
  clear ht hs hS hL iS iL h0 hraw0
  go_enter Tryd.func5, Tryd.ntmps5
  go_wp2_with fail
  generalize W.alloc (Obj.cells #[.slice aS S.length cS, .slice aL L.length cL] 25) = w0 at *
  refine HWA.out.mono ?_
  rintro e wn ⟨sv, lv, rfl, WW, hE⟩
  clear HWA
  replace o0 := ops_ext o0 hE
  replace TB := TB.ext hE
  replace EE := EE.trans hE
  clear hE
  obtain ⟨xsS, xeS, axS, cxS, rfl, xrS⟩ := WW.st
  obtain ⟨xsL, xeL, axL, cxL, rfl, xrL⟩ := WW.lp
  have l1 := WOK.out.l1
  go_wp2_with fail
  have hE := ext_al (Ext.refl wn) (Obj.cells #[.slice axS Sm.length cxS, .slice axL Lp.length cxL] 28)
  have hbk := blk_new wn (Obj.cells #[.slice axS Sm.length cxS, .slice axL Lp.length cxL] 28)
  have c0 := blk_cell hbk (i := 0) (v := .slice axS Sm.length cxS) rfl
  have c1 := blk_cell hbk (i := 1) (v := .slice axL Lp.length cxL) rfl
  clear hbk
  generalize hwB : wn.heap.size = wB at *
  clear hwB
  generalize hwn : wn.alloc (Obj.cells #[.slice axS Sm.length cxS, .slice axL Lp.length cxL] 28) = wn2 at *
  clear hwn
  have cur := And.intro c0 c1
  clear c0 c1
  replace o0 := ops_ext o0 hE
  replace WW := WW.ext hE
  replace TB := TB.ext hE
  replace EE := EE.trans hE
  replace xrL := xrL.ext hE
  replace xrS := xrS.ext hE
  replace xeL := xeL.ext hE
  replace xeS := xeS.ext hE
  clear hE
  refine (M0.out _ o0).mono ?_
  rintro e wn ⟨u0, rfl, hown, hE⟩
  have A0 := isT_own hown
  obtain ⟨a0, m0, c0, rfl⟩ := A0.val
  clear hown o0 M0
  replace WW := WW.ext hE
  replace TB := TB.ext hE
  replace cur := two_later hE cur
  replace EE := EE.trans hE
  replace xrL := xrL.ext hE
  replace xrS := xrS.ext hE
  replace xeL := xeL.ext hE
  replace xeS := xeS.ext hE
  clear hE
  obtain ⟨k0, kt, rfl⟩ : ∃ k0 kt, Lp = k0 :: kt := by
    cases Lp with
    | nil => simp at l1
    | cons a l => exact ⟨a, l, rfl⟩
  obtain ⟨y0, yt, rfl⟩ : ∃ y0 yt, xsL = y0 :: yt := by
    cases xsL with
    | nil => have := xrL.len; simp at this
    | cons a l => exact ⟨a, l, rfl⟩
  obtain ⟨ay, ny, cy, rfl⟩ : ∃ a n c, y0 = .slice a n c := by
    obtain ⟨a, c, e, _⟩ := xeL.2 0 _ k0 rfl rfl
    exact ⟨a, _, c, e⟩
  obtain ⟨bL, oL, rfl⟩ : ∃ bL oL, axL = some ⟨bL, oL, none⟩ := by
    obtain ⟨b, o, _, h2, _⟩ := xrL.lie
    exact ⟨b, o, h2 (by simp)⟩
  have hkt : kt.length ≤ 4 := by simp at hl5; omega
  have HXE := Lib.hid xeL
  have HXS := Lib.hid xeS
  have HS5 := Lib.hid hs5
  have HKT := Lib.hid hkt
  obtain ⟨bz, hbz⟩ : ∃ b, satB ⟨Sm ++ (k0 :: kt), Sm.length⟩ t0 0 = b := ⟨_, rfl⟩
  have EZ := Lib.hid hbz
  have ETW := Lib.hid (show satB ⟨Sm ++ ((k0 :: kt) ++ (k0 :: kt)), Sm.length⟩ t0 0 = bz by rw [← hbz]; exact word_twice Sm (k0 :: kt) (by simp) t0)
  have ETU := Lib.hid (show satB ⟨(Sm ++ [k0]) ++ (kt ++ [k0]), (Sm ++ [k0]).length⟩ t0 0 = bz by rw [← hbz, List.length_append]; exact word_turned Sm kt k0 t0)
  have HYES := Lib.hid (show satB ⟨Sm ++ (k0 :: kt), Sm.length⟩ (.n0 11 0) 0 = true from satB_yes _ 0 0)
  have HW2 := Lib.hid (show WdOk Sm ((k0 :: kt) ++ (k0 :: kt)) 3 from ⟨by omega, by simp, by simp; omega, fun x hx => WOK.out.let' x (by
    rcases List.mem_append.1 hx with h | h
    · exact List.mem_append_left _ h
    · exact List.mem_append_right _ ((List.mem_append.1 h).elim id id))⟩)
  have HW3 := Lib.hid (show WdOk (Sm ++ [k0]) (kt ++ [k0]) 3 from ⟨by simp; omega, by simp, by simp; omega, fun x hx => WOK.out.let' x (by simp at hx ⊢; rcases hx with h | h | h | h <;> simp [h])⟩)
  have HEY := Lib.hid (xeL.split.1)
  have HET := Lib.hid (xeL.split.2)
  obtain ⟨nl, hnl⟩ : ∃ nl, kt.length = nl := ⟨_, rfl⟩
  have HNL := Lib.hid hnl
  have hy0 : ∀ u ∈ (.slice ay ny cy) :: yt, u.oneCell' = true := xeL.one
  have hz0 : ∀ u ∈ xsS, u.oneCell' = true := xeS.one
  simp only [List.length_cons, hnl] at xrL cur hkt ⊢
  clear hnl l1 hbz xeL xeS hl5
  have hcx := xrL.le
  have hcm := xrL.max
  unfold maxLen at hcm
  have hrT : Row wn 1 (if cxL = 1 then some ⟨bL, oL, none⟩ else some ⟨bL, oL + 1, none⟩) nl (cxL - 1) yt := by
    by_cases hc : cxL = 1
    · rw [if_pos hc]
      obtain rfl : nl = 0 := by omega
      have := xrL.len
      obtain rfl : yt = [] := by cases yt with | nil => rfl | cons => simp at this
      exact ⟨rfl, by omega, by unfold maxLen; omega, bL, oL, (by intro h; cases h), (by intro h; simp at h), (by intro j u h; simp at h)⟩
    · rw [if_neg hc]
      have := xrL.dropT 1 (by omega)
      simpa using this
  obtain ⟨aT, haT⟩ : ∃ aT, (if cxL = 1 then (some ⟨bL, oL, none⟩ : Option Addr) else some ⟨bL, oL + 1, none⟩) = aT := ⟨_, rfl⟩
  rw [haT] at hrT
  have HAT := Lib.hid haT
  clear haT
  have d1 : wn.cell? ⟨bL, oL, none⟩ = some (.slice ay ny cy) := by simpa using xrL.cells 0 (.slice ay ny cy) rfl
  have HEX := Lib.hid (Ext.refl wn)
  go_upto_region 3 with fail
  go_cut [7] (fun sv wx => ∃ b a c, sv = .pointer (some ⟨b, 0, none⟩) ∧ Ext wn wx ∧ wx.heap[b]? = some (.cells #[.slice axS Sm.length cxS, .slice a (nl + 1 + (nl + 1)) c] 28) ∧ Row wx 1 a (nl + 1 + (nl + 1)) c (((.slice ay ny cy) :: yt) ++ ((.slice ay ny cy) :: yt)))
  case first =>
    have hxV := Ext.refl wn
    refine wp_region_ops (by kernel_rfl) (X := TW) Prod.snd (fun x => Ext wn x.2 ∧ ∀ b, b < wn.heap.size → x.1 b = 9) (fun i x x' => Nw wn.heap.size (if i = 7 then 1 else if i = 10 then 3 else 7) x x')
      (fun i v ds x => match i with
        | 0 => v = .pointer (some ⟨wB, 0, none⟩)
        | 1 => v = .slice axS Sm.length cxS
        | 2 => v = .pointer (some ⟨wB, 1, none⟩)
        | 3 => v = .slice (some ⟨bL, oL, none⟩) (nl + 1) cxL
        | 4 => ∃ a c, v = .slice a (nl + 1) c ∧ OwnT x.1 1 x.2 wn.heap.size 32 1 (.slice a (nl + 1) c) (nl + 1) ((.slice ay ny cy) :: yt)
        | 5 => v = .pointer (some ⟨wB, 1, none⟩)
        | 6 => v = .slice (some ⟨bL, oL, none⟩) (nl + 1) cxL
        | 7 => ∃ a c, v = .slice a (nl + 1 + (nl + 1)) c ∧ OwnT x.1 1 x.2 wn.heap.size 32 1 (.slice a (nl + 1 + (nl + 1)) c) (nl + 1 + (nl + 1)) (((.slice ay ny cy) :: yt) ++ ((.slice ay ny cy) :: yt))
        | 8 => ∃ a c, v = .agg #[.slice axS Sm.length cxS, .slice a (nl + 1 + (nl + 1)) c] ∧ OwnT x.1 1 x.2 wn.heap.size 32 1 (.slice a (nl + 1 + (nl + 1)) c) (nl + 1 + (nl + 1)) (((.slice ay ny cy) :: yt) ++ ((.slice ay ny cy) :: yt))
        | 9 => ∃ b, wn.heap.size ≤ b ∧ v = .pointer (some ⟨b, 0, none⟩) ∧ EntB wn.heap.size 3 x fun y => y.heap[b]? = some (.cells #[.slice none 0 0, .slice none 0 0] 28)
        | _ => ∃ b a c, ds.head? = some (.pointer (some ⟨b, 0, none⟩)) ∧ Ext wn x.2 ∧ x.2.heap[b]? = some (.cells #[.slice axS Sm.length cxS, .slice a (nl + 1 + (nl + 1)) c] 28) ∧ Row x.2 1 a (nl + 1 + (nl + 1)) c (((.slice ay ny cy) :: yt) ++ ((.slice ay ny cy) :: yt)))
      (fun j => if j = 4 then some 7 else if j = 7 then some 8 else if j = 8 then some 10 else if j = 9 then some 10 else none) (some 10) ((fun _ => 9), wn.drew) rfl (by kernel_rfl) (by kernel_rfl) ⟨Below.drew (Ext.refl wn), fun _ _ => rfl⟩ ?_ (by kernel_rfl) ?_ ?_
    · intro i j v vs x x' hi hjl hji ha hc hR hj
      match j, hjl, hji, ha, hc, hj with
      | 0, _, _, _, _, hj | 1, _, _, _, _, hj | 2, _, _, _, _, hj | 3, _, _, _, _, hj | 5, _, _, _, _, hj | 6, _, _, _, _, hj => exact hj
      | 4, _, hji, ha, hc, hj =>
        obtain ⟨a, c, e, h⟩ := hj
        exact ⟨a, c, e, Nw.own h hR (by first | omega | ((repeat' split) <;> (rename_i e; first | omega | exact (hji e.symm).elim | exact (hc (by rw [e]; rfl)).elim | exact anc_not (by subst e; kernel_rfl) ha)))⟩
      | 7, _, hji, ha, hc, hj =>
        obtain ⟨a, c, e, h⟩ := hj
        exact ⟨a, c, e, Nw.own h hR (by first | omega | ((repeat' split) <;> (rename_i e; first | omega | exact (hji e.symm).elim | exact (hc (by rw [e]; rfl)).elim | exact anc_not (by subst e; kernel_rfl) ha)))⟩
      | 8, _, hji, ha, hc, hj =>
        obtain ⟨a, c, e, h⟩ := hj
        exact ⟨a, c, e, Nw.own h hR (by first | omega | ((repeat' split) <;> (rename_i e; first | omega | exact (hji e.symm).elim | exact (hc (by rw [e]; rfl)).elim | exact anc_not (by subst e; kernel_rfl) ha)))⟩
      | 9, _, hji, ha, hc, hj =>
        obtain ⟨b, hB, e, h⟩ := hj
        exact ⟨b, hB, e, Nw.ent h hR (by first | omega | ((repeat' split) <;> (rename_i e; first | omega | exact (hji e.symm).elim | exact (hc (by rw [e]; rfl)).elim | exact anc_not (by subst e; kernel_rfl) ha)))⟩
      | 10, _, hji, ha, _, _ => exact last_anc (by kernel_rfl) hi hji ha
      | n + 11, hjl, _, _, _, _ => exact absurd hjl (by simp)
    · refine StepsL.more (fun f x A hA hS hJ K hK => ?_) ?_
      · have e5 : A.tmps[5]? = some (.pointer (some ⟨wB, 0, none⟩)) := hA 5 rfl
        clear hA hJ
        exact wp_val (v := .pointer (some ⟨wB, 0, none⟩)) (w' := x.2) (by go_simp) (hK _ x (fun _ => hS) (Nw.refl x) rfl)
      refine StepsL.more (fun f x A hA hS hJ K hK => ?_) ?_
      · have e0 : f 0 = .pointer (some ⟨wB, 0, none⟩) := hJ 0 (by kernel_rfl) (by kernel_rfl)
        have es : A.tmps[21]? = some (f 0) := hA 21 rfl
        rw [e0] at es
        have hc1 := cell_later (hxV.trans hS.1) cur.1
        clear hA hJ
        exact wp_val (v := .slice axS Sm.length cxS) (w' := x.2) (by go_simp) (hK _ x (fun _ => hS) (Nw.refl x) rfl)
      refine StepsL.more (fun f x A hA hS hJ K hK => ?_) ?_
      · have e5 : A.tmps[5]? = some (.pointer (some ⟨wB, 0, none⟩)) := hA 5 rfl
        clear hA hJ
        exact wp_val (v := .pointer (some ⟨wB, 1, none⟩)) (w' := x.2) (by go_simp) (hK _ x (fun _ => hS) (Nw.refl x) rfl)
      refine StepsL.more (fun f x A hA hS hJ K hK => ?_) ?_
      · have e2 : f 2 = .pointer (some ⟨wB, 1, none⟩) := hJ 2 (by kernel_rfl) (by kernel_rfl)
        have es : A.tmps[23]? = some (f 2) := hA 23 rfl
        rw [e2] at es
        have hc1 := cell_later (hxV.trans hS.1) cur.2
        clear hA hJ
        exact wp_val (v := .slice (some ⟨bL, oL, none⟩) (nl + 1) cxL) (w' := x.2) (by go_simp) (hK _ x (fun _ => hS) (Nw.refl x) rfl)
      refine StepsL.more (fun f x A hA hS hJ K hK => ?_) ?_
      · have e3 : f 3 = .slice (some ⟨bL, oL, none⟩) (nl + 1) cxL := hJ 3 (by kernel_rfl) (by kernel_rfl)
        have es : A.tmps[24]? = some (f 3) := hA 24 rfl
        rw [e3] at es
        have hr := (xrL.ext hxV).ext hS.1
        clear hA hJ
        refine rg_new x.1 wn.heap.size 1 rfl Tryd.slBoolss rfl (ev_of es) hr hy0 (by unfold maxLen; omega) (by omega) hS.1.size ?_
        intro a c w' ho hE
        exact hK _ (tagAt x.1 x.2.heap.size 1, w') (fun _ => ⟨Ext.trans hS.1 hE, fun b hb => (tagAt_lt (Nat.lt_of_lt_of_le hb hS.1.size)).trans (hS.2 b hb)⟩) (Nw.call hE 1) ⟨a, c, rfl, ho⟩
      refine StepsL.more (fun f x A hA hS hJ K hK => ?_) ?_
      · have e5 : A.tmps[5]? = some (.pointer (some ⟨wB, 0, none⟩)) := hA 5 rfl
        clear hA hJ
        exact wp_val (v := .pointer (some ⟨wB, 1, none⟩)) (w' := x.2) (by go_simp) (hK _ x (fun _ => hS) (Nw.refl x) rfl)
      refine StepsL.more (fun f x A hA hS hJ K hK => ?_) ?_
      · have e5 : f 5 = .pointer (some ⟨wB, 1, none⟩) := hJ 5 (by kernel_rfl) (by kernel_rfl)
        have es : A.tmps[26]? = some (f 5) := hA 26 rfl
        rw [e5] at es
        have hc1 := cell_later (hxV.trans hS.1) cur.2
        clear hA hJ
        exact wp_val (v := .slice (some ⟨bL, oL, none⟩) (nl + 1) cxL) (w' := x.2) (by go_simp) (hK _ x (fun _ => hS) (Nw.refl x) rfl)
      refine StepsL.more (fun f x A hA hS hJ K hK => ?_) ?_
      · have e4 := hJ 4 (by kernel_rfl) (by kernel_rfl)
        have es1 : A.tmps[25]? = some (f 4) := hA 25 rfl
        obtain ⟨a, c, e, ho⟩ := e4
        rw [e] at es1
        have e6 : f 6 = .slice (some ⟨bL, oL, none⟩) (nl + 1) cxL := hJ 6 (by kernel_rfl) (by kernel_rfl)
        have es2 : A.tmps[27]? = some (f 6) := hA 27 rfl
        rw [e6] at es2
        have hr := (xrL.ext hxV).ext hS.1
        clear hA hJ
        refine rg_append rfl Tryd.slBoolss (ev_of es1) ho (ev_of es2) hr hy0 (by unfold maxLen; omega) (by omega) hS.1.size ?_
        intro a' c' w' ho' hn hb
        exact hK _ (_, w') (fun _ => ⟨Below.trans hS.1 hb, fun b hb => (tagAt_lt (Nat.lt_of_lt_of_le hb hS.1.size)).trans (hS.2 b hb)⟩) hn ⟨a', c', rfl, ho'⟩
      refine StepsL.more (fun f x A hA hS hJ K hK => ?_) ?_
      · have e7 := hJ 7 (by kernel_rfl) (by kernel_rfl)
        have es1 : A.tmps[28]? = some (f 7) := hA 28 rfl
        obtain ⟨a, c, e, ho⟩ := e7
        rw [e] at es1
        have e1 : f 1 = .slice axS Sm.length cxS := hJ 1 (by kernel_rfl) (by kernel_rfl)
        have es2 : A.tmps[22]? = some (f 1) := hA 22 rfl
        rw [e1] at es2
        clear hA hJ
        exact wp_val (v := .agg #[.slice axS Sm.length cxS, .slice a (nl + 1 + (nl + 1)) c]) (w' := x.2) (by go_simp) (hK _ x (fun _ => hS) (Nw.refl x) ⟨a, c, rfl, ho⟩)
      refine StepsL.more (fun f x A hA hS hJ K hK => ?_) ?_
      · clear hA hJ
        have hE := ext_al (Ext.refl x.2) (Obj.cells #[.slice none 0 0, .slice none 0 0] 28)
        have hb := blk_new x.2 (Obj.cells #[.slice none 0 0, .slice none 0 0] 28)
        exact wp_val (v := .pointer (some ⟨x.2.heap.size, 0, none⟩)) (w' := x.2.alloc (.cells #[.slice none 0 0, .slice none 0 0] 28)) (by go_simp) (hK _ (tagAt x.1 x.2.heap.size 3, x.2.alloc (.cells #[.slice none 0 0, .slice none 0 0] 28)) (fun _ => ⟨Ext.trans hS.1 hE, fun b hb => (tagAt_lt (Nat.lt_of_lt_of_le hb hS.1.size)).trans (hS.2 b hb)⟩) (Nw.call hE 3) ⟨x.2.heap.size, hS.1.size, rfl, EntB.blk hS.1.size (fun b hb => by rw [hS.2 b hb]; omega) hb⟩)
      refine StepsL.more (fun f x A hA hS hJ K hK => ?_) ?_
      · have ea := hJ 9 (by kernel_rfl) (by kernel_rfl)
        have ev := hJ 8 (by kernel_rfl) (by kernel_rfl)
        have es1 : A.tmps[7]? = some (f 9) := hA 7 rfl
        have es2 : A.tmps[29]? = some (f 8) := hA 29 rfl
        obtain ⟨b, hbB, e, hb⟩ := ea
        obtain ⟨a, c, e', ho⟩ := ev
        rw [e] at es1
        rw [e'] at es2
        have hb0 := hb.now
        have hc0 := blk_cell hb0 (i := 0) rfl
        have hc1 := blk_cell hb0 (i := 1) rfl
        have hf0 := blk_free hb0 0
        have hf1 := blk_free hb0 1
        have htb : x.1 b = 3 := by
          by_cases h3 : x.1 b = 3
          · exact h3
          · exfalso
            have := hb.ent (x.2.setCell ⟨b, 0, none⟩ (.int .i64 7)) (by simp) (fun b' _ h => Below.heap_setCell _ _ _ _ (by intro h2; subst h2; exact h3 h))
            rw [blk_set hb0 (i := 0) (.int .i64 7)] at this
            simp at this
        clear hA hJ
        refine wp_skip (w' := (x.2.setCell ⟨b, 0, none⟩ (.slice axS Sm.length cxS)).setCell ⟨b, 1, none⟩ (.slice a (nl + 1 + (nl + 1)) c)) (by go_simp) (hK _ (x.1, (x.2.setCell ⟨b, 0, none⟩ (.slice axS Sm.length cxS)).setCell ⟨b, 1, none⟩ (.slice a (nl + 1 + (nl + 1)) c)) (fun h => absurd rfl h) ⟨by simp, fun _ _ => rfl, fun b' h1 _ h3 => (Below.heap_setCell _ _ _ _ (by intro h2; subst h2; exact h3 (htb.trans rfl))).trans (Below.heap_setCell _ _ _ _ (by intro h2; subst h2; exact h3 (htb.trans rfl)))⟩ ?_)
        have h1 := blk_set (blk_set hb0 (i := 0) (.slice axS Sm.length cxS)) (i := 1) (.slice a (nl + 1 + (nl + 1)) c)
        have hx1 := ext_st (ext_st hS.1 (p := ⟨b, 0, none⟩) hbB (.slice axS Sm.length cxS)) (p := ⟨b, 1, none⟩) hbB (.slice a (nl + 1 + (nl + 1)) c)
        have hk : Nw wn.heap.size 3 x (x.1, (x.2.setCell ⟨b, 0, none⟩ (.slice axS Sm.length cxS)).setCell ⟨b, 1, none⟩ (.slice a (nl + 1 + (nl + 1)) c)) := ⟨by simp, fun _ _ => rfl, fun b' h1 _ h3 => (Below.heap_setCell _ _ _ _ (by intro h2; subst h2; exact h3 htb)).trans (Below.heap_setCell _ _ _ _ (by intro h2; subst h2; exact h3 htb))⟩
        obtain ⟨a2, c2, ee, hr⟩ := (Nw.own ho hk (by omega)).reads
        cases ee
        exact ⟨b, a, c, by show some (f 9) = _; rw [e], hx1, h1, hr⟩
      exact StepsL.done
    · intro f x _ hJ
      have hl := hJ 10 (by decide) rfl
      obtain ⟨b, a, c, hd, h1, h2, h3⟩ := hl
      have e9 : f 9 = .pointer (some ⟨b, 0, none⟩) := by injection hd
      simp only [allL]
      go_simp
      go_wp2_with fail
      go_meet
      exact ⟨b, a, c, rfl, h1, h2, h3⟩
  case rest =>
  obtain ⟨bX, aX, cX, rfl, hEX, hbX, hrX⟩ := hcut
  replace xrL := xrL.ext hEX
  replace xrS := xrS.ext hEX
  replace hrT := hrT.ext hEX
  replace d1 := cell_later hEX d1
  replace WW := WW.ext hEX
  replace A0 := A0.ext hEX
  replace TB := TB.ext hEX
  replace cur := two_later hEX cur
  replace EE := EE.trans hEX
  have HEX1 := Lib.hid hEX
  clear hEX
  have HBX := Lib.hid hbX
  clear hbX
  obtain ⟨wc1, hwc1⟩ : ∃ z, z = wc := ⟨_, rfl⟩
  subst hwc1
  go_upto_region 4 with fail
  go_cut [8] (fun sv wx => ∃ b a c a' c', sv = .pointer (some ⟨b, 0, none⟩) ∧ Ext wc1 wx ∧ wx.heap[b]? = some (.cells #[.slice a (Sm.length + 1) c, .slice a' (nl + 1) c'] 28) ∧ Row wx 1 a (Sm.length + 1) c (xsS ++ [(.slice ay ny cy)]) ∧ Row wx 1 a' (nl + 1) c' (yt ++ [(.slice ay ny cy)]))
  case first =>
    have hxV := Ext.refl wc1
    refine wp_region_ops (by kernel_rfl) (X := TW) Prod.snd (fun x => Ext wc1 x.2 ∧ ∀ b, b < wc1.heap.size → x.1 b = 9) (fun i x x' => Nw wc1.heap.size (if i = 8 then 1 else if i = 18 then 2 else if i = 21 then 3 else 7) x x')
      (fun i v ds x => match i with
        | 0 => v = .pointer (some ⟨wB, 0, none⟩)
        | 1 => v = .slice axS Sm.length cxS
        | 2 => ∃ a c, v = .slice a (Sm.length) c ∧ OwnT x.1 1 x.2 wc1.heap.size 32 1 (.slice a (Sm.length) c) (Sm.length) (xsS)
        | 3 => v = .pointer (some ⟨wB, 1, none⟩)
        | 4 => v = .slice (some ⟨bL, oL, none⟩) (nl + 1) cxL
        | 5 => v = .pointer (some ⟨bL, oL, none⟩)
        | 6 => v = (.slice ay ny cy)
        | 7 => ∃ b, v = .slice (some ⟨b, 0, none⟩) 1 1 ∧ EntB wc1.heap.size 0 x fun y => Row y 1 (some ⟨b, 0, none⟩) 1 1 [(.slice ay ny cy)]
        | 8 => ∃ a c, v = .slice a (Sm.length + 1) c ∧ OwnT x.1 1 x.2 wc1.heap.size 32 1 (.slice a (Sm.length + 1) c) (Sm.length + 1) (xsS ++ [(.slice ay ny cy)])
        | 9 => v = .pointer (some ⟨wB, 1, none⟩)
        | 10 => v = .slice (some ⟨bL, oL, none⟩) (nl + 1) cxL
        | 11 => v = .slice aT nl (cxL - 1)
        | 12 => ∃ a c, v = .slice a (nl) c ∧ OwnT x.1 2 x.2 wc1.heap.size 32 1 (.slice a (nl) c) (nl) (yt)
        | 13 => v = .pointer (some ⟨wB, 1, none⟩)
        | 14 => v = .slice (some ⟨bL, oL, none⟩) (nl + 1) cxL
        | 15 => v = .pointer (some ⟨bL, oL, none⟩)
        | 16 => v = (.slice ay ny cy)
        | 17 => ∃ b, v = .slice (some ⟨b, 0, none⟩) 1 1 ∧ EntB wc1.heap.size 0 x fun y => Row y 1 (some ⟨b, 0, none⟩) 1 1 [(.slice ay ny cy)]
        | 18 => ∃ a c, v = .slice a (nl + 1) c ∧ OwnT x.1 2 x.2 wc1.heap.size 32 1 (.slice a (nl + 1) c) (nl + 1) (yt ++ [(.slice ay ny cy)])
        | 19 => ∃ a c a' c', v = .agg #[.slice a (Sm.length + 1) c, .slice a' (nl + 1) c'] ∧ OwnT x.1 1 x.2 wc1.heap.size 32 1 (.slice a (Sm.length + 1) c) (Sm.length + 1) (xsS ++ [(.slice ay ny cy)]) ∧ OwnT x.1 2 x.2 wc1.heap.size 32 1 (.slice a' (nl + 1) c') (nl + 1) (yt ++ [(.slice ay ny cy)])
        | 20 => ∃ b, wc1.heap.size ≤ b ∧ v = .pointer (some ⟨b, 0, none⟩) ∧ EntB wc1.heap.size 3 x fun y => y.heap[b]? = some (.cells #[.slice none 0 0, .slice none 0 0] 28)
        | _ => ∃ b a c a' c', ds.head? = some (.pointer (some ⟨b, 0, none⟩)) ∧ Ext wc1 x.2 ∧ x.2.heap[b]? = some (.cells #[.slice a (Sm.length + 1) c, .slice a' (nl + 1) c'] 28) ∧ Row x.2 1 a (Sm.length + 1) c (xsS ++ [(.slice ay ny cy)]) ∧ Row x.2 1 a' (nl + 1) c' (yt ++ [(.slice ay ny cy)]))
      (fun j => if j = 2 then some 8 else if j = 7 then some 8 else if j = 8 then some 19 else if j = 12 then some 18 else if j = 17 then some 18 else if j = 18 then some 19 else if j = 19 then some 21 else if j = 20 then some 21 else none) (some 21) ((fun _ => 9), wc1.drew) rfl (by kernel_rfl) (by kernel_rfl) ⟨Below.drew (Ext.refl wc1), fun _ _ => rfl⟩ ?_ (by kernel_rfl) ?_ ?_
    · intro i j v vs x x' hi hjl hji ha hc hR hj
      match j, hjl, hji, ha, hc, hj with
      | 0, _, _, _, _, hj | 1, _, _, _, _, hj | 3, _, _, _, _, hj | 4, _, _, _, _, hj | 5, _, _, _, _, hj | 6, _, _, _, _, hj | 9, _, _, _, _, hj | 10, _, _, _, _, hj | 11, _, _, _, _, hj | 13, _, _, _, _, hj | 14, _, _, _, _, hj | 15, _, _, _, _, hj | 16, _, _, _, _, hj => exact hj
      | 2, _, hji, ha, hc, hj =>
        obtain ⟨a, c, e, h⟩ := hj
        exact ⟨a, c, e, Nw.own h hR (by first | omega | ((repeat' split) <;> (rename_i e; first | omega | exact (hji e.symm).elim | exact (hc (by rw [e]; rfl)).elim | exact anc_not (by subst e; kernel_rfl) ha)))⟩
      | 7, _, hji, ha, hc, hj =>
        obtain ⟨b, e, h⟩ := hj
        exact ⟨b, e, Nw.ent h hR (by first | omega | ((repeat' split) <;> (rename_i e; first | omega | exact (hji e.symm).elim | exact (hc (by rw [e]; rfl)).elim | exact anc_not (by subst e; kernel_rfl) ha)))⟩
      | 8, _, hji, ha, hc, hj =>
        obtain ⟨a, c, e, h⟩ := hj
        exact ⟨a, c, e, Nw.own h hR (by first | omega | ((repeat' split) <;> (rename_i e; first | omega | exact (hji e.symm).elim | exact (hc (by rw [e]; rfl)).elim | exact anc_not (by subst e; kernel_rfl) ha)))⟩
      | 12, _, hji, ha, hc, hj =>
        obtain ⟨a, c, e, h⟩ := hj
        exact ⟨a, c, e, Nw.own h hR (by first | omega | ((repeat' split) <;> (rename_i e; first | omega | exact (hji e.symm).elim | exact (hc (by rw [e]; rfl)).elim | exact anc_not (by subst e; kernel_rfl) ha)))⟩
      | 17, _, hji, ha, hc, hj =>
        obtain ⟨b, e, h⟩ := hj
        exact ⟨b, e, Nw.ent h hR (by first | omega | ((repeat' split) <;> (rename_i e; first | omega | exact (hji e.symm).elim | exact (hc (by rw [e]; rfl)).elim | exact anc_not (by subst e; kernel_rfl) ha)))⟩
      | 18, _, hji, ha, hc, hj =>
        obtain ⟨a, c, e, h⟩ := hj
        exact ⟨a, c, e, Nw.own h hR (by first | omega | ((repeat' split) <;> (rename_i e; first | omega | exact (hji e.symm).elim | exact (hc (by rw [e]; rfl)).elim | exact anc_not (by subst e; kernel_rfl) ha)))⟩
      | 19, _, hji, ha, hc, hj =>
        obtain ⟨a, c, a', c', e, h, h'⟩ := hj
        exact ⟨a, c, a', c', e, Nw.own h hR (by first | omega | ((repeat' split) <;> (rename_i e; first | omega | exact (hji e.symm).elim | exact (hc (by rw [e]; rfl)).elim | exact anc_not (by subst e; kernel_rfl) ha))), Nw.own h' hR (by first | omega | ((repeat' split) <;> (rename_i e; first | omega | exact (hji e.symm).elim | exact (hc (by rw [e]; rfl)).elim | exact anc_not (by subst e; kernel_rfl) ha)))⟩
      | 20, _, hji, ha, hc, hj =>
        obtain ⟨b, hB, e, h⟩ := hj
        exact ⟨b, hB, e, Nw.ent h hR (by first | omega | ((repeat' split) <;> (rename_i e; first | omega | exact (hji e.symm).elim | exact (hc (by rw [e]; rfl)).elim | exact anc_not (by subst e; kernel_rfl) ha)))⟩
      | 21, _, hji, ha, _, _ => exact last_anc (by kernel_rfl) hi hji ha
      | n + 22, hjl, _, _, _, _ => exact absurd hjl (by simp)
    · refine StepsL.more (fun f x A hA hS hJ K hK => ?_) ?_
      · have e5 : A.tmps[5]? = some (.pointer (some ⟨wB, 0, none⟩)) := hA 5 rfl
        clear hA hJ
        exact wp_val (v := .pointer (some ⟨wB, 0, none⟩)) (w' := x.2) (by go_simp) (hK _ x (fun _ => hS) (Nw.refl x) rfl)
      refine StepsL.more (fun f x A hA hS hJ K hK => ?_) ?_
      · have e0 : f 0 = .pointer (some ⟨wB, 0, none⟩) := hJ 0 (by kernel_rfl) (by kernel_rfl)
        have es : A.tmps[30]? = some (f 0) := hA 30 rfl
        rw [e0] at es
        have hc1 := cell_later (hxV.trans hS.1) cur.1
        clear hA hJ
        exact wp_val (v := .slice axS Sm.length cxS) (w' := x.2) (by go_simp) (hK _ x (fun _ => hS) (Nw.refl x) rfl)
      refine StepsL.more (fun f x A hA hS hJ K hK => ?_) ?_
      · have e1 : f 1 = .slice axS Sm.length cxS := hJ 1 (by kernel_rfl) (by kernel_rfl)
        have es : A.tmps[31]? = some (f 1) := hA 31 rfl
        rw [e1] at es
        have hr := (xrS.ext hxV).ext hS.1
        clear hA hJ
        refine rg_new x.1 wc1.heap.size 1 rfl Tryd.slBoolss rfl (ev_of es) hr hz0 (by unfold maxLen; omega) (by omega) hS.1.size ?_
        intro a c w' ho hE
        exact hK _ (tagAt x.1 x.2.heap.size 1, w') (fun _ => ⟨Ext.trans hS.1 hE, fun b hb => (tagAt_lt (Nat.lt_of_lt_of_le hb hS.1.size)).trans (hS.2 b hb)⟩) (Nw.call hE 1) ⟨a, c, rfl, ho⟩
      refine StepsL.more (fun f x A hA hS hJ K hK => ?_) ?_
      · have e5 : A.tmps[5]? = some (.pointer (some ⟨wB, 0, none⟩)) := hA 5 rfl
        clear hA hJ
        exact wp_val (v := .pointer (some ⟨wB, 1, none⟩)) (w' := x.2) (by go_simp) (hK _ x (fun _ => hS) (Nw.refl x) rfl)
      refine StepsL.more (fun f x A hA hS hJ K hK => ?_) ?_
      · have e3 : f 3 = .pointer (some ⟨wB, 1, none⟩) := hJ 3 (by kernel_rfl) (by kernel_rfl)
        have es : A.tmps[33]? = some (f 3) := hA 33 rfl
        rw [e3] at es
        have hc1 := cell_later (hxV.trans hS.1) cur.2
        clear hA hJ
        exact wp_val (v := .slice (some ⟨bL, oL, none⟩) (nl + 1) cxL) (w' := x.2) (by go_simp) (hK _ x (fun _ => hS) (Nw.refl x) rfl)
      refine StepsL.more (fun f x A hA hS hJ K hK => ?_) ?_
      · have e4 : f 4 = .slice (some ⟨bL, oL, none⟩) (nl + 1) cxL := hJ 4 (by kernel_rfl) (by kernel_rfl)
        have es4 : A.tmps[34]? = some (f 4) := hA 34 rfl
        rw [e4] at es4
        clear hA hJ
        exact wp_val (v := .pointer (some ⟨bL, oL, none⟩)) (w' := x.2) (by go_simp) (hK _ x (fun _ => hS) (Nw.refl x) rfl)
      refine StepsL.more (fun f x A hA hS hJ K hK => ?_) ?_
      · have e5 : f 5 = .pointer (some ⟨bL, oL, none⟩) := hJ 5 (by kernel_rfl) (by kernel_rfl)
        have es : A.tmps[35]? = some (f 5) := hA 35 rfl
        rw [e5] at es
        have hc1 := cell_later (hxV.trans hS.1) d1
        clear hA hJ
        exact wp_val (v := (.slice ay ny cy)) (w' := x.2) (by go_simp) (hK _ x (fun _ => hS) (Nw.refl x) rfl)
      refine StepsL.more (fun f x A hA hS hJ K hK => ?_) ?_
      · have e6 : f 6 = (.slice ay ny cy) := hJ 6 (by kernel_rfl) (by kernel_rfl)
        have es : A.tmps[36]? = some (f 6) := hA 36 rfl
        rw [e6] at es
        clear hA hJ
        have hE := ext_al (Ext.refl x.2) (Obj.cells #[(.slice ay ny cy)] 32)
        exact wp_val (v := .slice (some ⟨x.2.heap.size, 0, none⟩) 1 1) (w' := x.2.alloc (.cells #[(.slice ay ny cy)] 32)) (by go_simp) (hK _ (tagAt x.1 x.2.heap.size 0, x.2.alloc (.cells #[(.slice ay ny cy)] 32)) (fun _ => ⟨Ext.trans hS.1 hE, fun b hb => (tagAt_lt (Nat.lt_of_lt_of_le hb hS.1.size)).trans (hS.2 b hb)⟩) (Nw.call hE 0) ⟨x.2.heap.size, rfl, EntB.row hS.1.size (fun b hb => by rw [hS.2 b hb]; omega) (Row.one _ _ _)⟩)
      refine StepsL.more (fun f x A hA hS hJ K hK => ?_) ?_
      · have e2 := hJ 2 (by kernel_rfl) (by kernel_rfl)
        have es1 : A.tmps[32]? = some (f 2) := hA 32 rfl
        obtain ⟨a, c, e, ho⟩ := e2
        rw [e] at es1
        have e7 := hJ 7 (by kernel_rfl) (by kernel_rfl)
        have es2 : A.tmps[37]? = some (f 7) := hA 37 rfl
        obtain ⟨b, e', hr'⟩ := e7
        rw [e'] at es2
        have hr := hr'.now
        clear hA hJ
        refine rg_append rfl Tryd.slBoolss (ev_of es1) ho (ev_of es2) hr (fun u hu => hy0 u (by simp at hu; subst hu; exact List.mem_cons_self ..)) (by unfold maxLen; omega) (by omega) hS.1.size ?_
        intro a' c' w' ho' hn hb
        exact hK _ (_, w') (fun _ => ⟨Below.trans hS.1 hb, fun b hb => (tagAt_lt (Nat.lt_of_lt_of_le hb hS.1.size)).trans (hS.2 b hb)⟩) hn ⟨a', c', rfl, ho'⟩
      refine StepsL.more (fun f x A hA hS hJ K hK => ?_) ?_
      · have e5 : A.tmps[5]? = some (.pointer (some ⟨wB, 0, none⟩)) := hA 5 rfl
        clear hA hJ
        exact wp_val (v := .pointer (some ⟨wB, 1, none⟩)) (w' := x.2) (by go_simp) (hK _ x (fun _ => hS) (Nw.refl x) rfl)
      refine StepsL.more (fun f x A hA hS hJ K hK => ?_) ?_
      · have e9 : f 9 = .pointer (some ⟨wB, 1, none⟩) := hJ 9 (by kernel_rfl) (by kernel_rfl)
        have es : A.tmps[39]? = some (f 9) := hA 39 rfl
        rw [e9] at es
        have hc1 := cell_later (hxV.trans hS.1) cur.2
        clear hA hJ
        exact wp_val (v := .slice (some ⟨bL, oL, none⟩) (nl + 1) cxL) (w' := x.2) (by go_simp) (hK _ x (fun _ => hS) (Nw.refl x) rfl)
      refine StepsL.more (fun f x A hA hS hJ K hK => ?_) ?_
      · have e10 : f 10 = .slice (some ⟨bL, oL, none⟩) (nl + 1) cxL := hJ 10 (by kernel_rfl) (by kernel_rfl)
        have es10 : A.tmps[40]? = some (f 10) := hA 40 rfl
        rw [e10] at es10
        clear hA hJ
        exact wp_val (v := .slice aT nl (cxL - 1)) (w' := x.2) (by go_simp; rw [if_pos (by omega), HAT.out]) (hK _ x (fun _ => hS) (Nw.refl x) rfl)
      refine StepsL.more (fun f x A hA hS hJ K hK => ?_) ?_
      · have e11 : f 11 = .slice aT nl (cxL - 1) := hJ 11 (by kernel_rfl) (by kernel_rfl)
        have es : A.tmps[41]? = some (f 11) := hA 41 rfl
        rw [e11] at es
        have hr := (hrT.ext hxV).ext hS.1
        clear hA hJ
        refine rg_new x.1 wc1.heap.size 2 rfl Tryd.slBoolss rfl (ev_of es) hr (fun u hu => hy0 u (List.mem_cons_of_mem _ hu)) (by unfold maxLen; omega) (by omega) hS.1.size ?_
        intro a c w' ho hE
        exact hK _ (tagAt x.1 x.2.heap.size 2, w') (fun _ => ⟨Ext.trans hS.1 hE, fun b hb => (tagAt_lt (Nat.lt_of_lt_of_le hb hS.1.size)).trans (hS.2 b hb)⟩) (Nw.call hE 2) ⟨a, c, rfl, ho⟩
      refine StepsL.more (fun f x A hA hS hJ K hK => ?_) ?_
      · have e5 : A.tmps[5]? = some (.pointer (some ⟨wB, 0, none⟩)) := hA 5 rfl
        clear hA hJ
        exact wp_val (v := .pointer (some ⟨wB, 1, none⟩)) (w' := x.2) (by go_simp) (hK _ x (fun _ => hS) (Nw.refl x) rfl)
      refine StepsL.more (fun f x A hA hS hJ K hK => ?_) ?_
      · have e13 : f 13 = .pointer (some ⟨wB, 1, none⟩) := hJ 13 (by kernel_rfl) (by kernel_rfl)
        have es : A.tmps[43]? = some (f 13) := hA 43 rfl
        rw [e13] at es
        have hc1 := cell_later (hxV.trans hS.1) cur.2
        clear hA hJ
        exact wp_val (v := .slice (some ⟨bL, oL, none⟩) (nl + 1) cxL) (w' := x.2) (by go_simp) (hK _ x (fun _ => hS) (Nw.refl x) rfl)
      refine StepsL.more (fun f x A hA hS hJ K hK => ?_) ?_
      · have e14 : f 14 = .slice (some ⟨bL, oL, none⟩) (nl + 1) cxL := hJ 14 (by kernel_rfl) (by kernel_rfl)
        have es14 : A.tmps[44]? = some (f 14) := hA 44 rfl
        rw [e14] at es14
        clear hA hJ
        exact wp_val (v := .pointer (some ⟨bL, oL, none⟩)) (w' := x.2) (by go_simp) (hK _ x (fun _ => hS) (Nw.refl x) rfl)
      refine StepsL.more (fun f x A hA hS hJ K hK => ?_) ?_
      · have e15 : f 15 = .pointer (some ⟨bL, oL, none⟩) := hJ 15 (by kernel_rfl) (by kernel_rfl)
        have es : A.tmps[45]? = some (f 15) := hA 45 rfl
        rw [e15] at es
        have hc1 := cell_later (hxV.trans hS.1) d1
        clear hA hJ
        exact wp_val (v := (.slice ay ny cy)) (w' := x.2) (by go_simp) (hK _ x (fun _ => hS) (Nw.refl x) rfl)
      refine StepsL.more (fun f x A hA hS hJ K hK => ?_) ?_
      · have e16 : f 16 = (.slice ay ny cy) := hJ 16 (by kernel_rfl) (by kernel_rfl)
        have es : A.tmps[46]? = some (f 16) := hA 46 rfl
        rw [e16] at es
        clear hA hJ
        have hE := ext_al (Ext.refl x.2) (Obj.cells #[(.slice ay ny cy)] 32)
        exact wp_val (v := .slice (some ⟨x.2.heap.size, 0, none⟩) 1 1) (w' := x.2.alloc (.cells #[(.slice ay ny cy)] 32)) (by go_simp) (hK _ (tagAt x.1 x.2.heap.size 0, x.2.alloc (.cells #[(.slice ay ny cy)] 32)) (fun _ => ⟨Ext.trans hS.1 hE, fun b hb => (tagAt_lt (Nat.lt_of_lt_of_le hb hS.1.size)).trans (hS.2 b hb)⟩) (Nw.call hE 0) ⟨x.2.heap.size, rfl, EntB.row hS.1.size (fun b hb => by rw [hS.2 b hb]; omega) (Row.one _ _ _)⟩)
      refine StepsL.more (fun f x A hA hS hJ K hK => ?_) ?_
      · have e12 := hJ 12 (by kernel_rfl) (by kernel_rfl)
        have es1 : A.tmps[42]? = some (f 12) := hA 42 rfl
        obtain ⟨a, c, e, ho⟩ := e12
        rw [e] at es1
        have e17 := hJ 17 (by kernel_rfl) (by kernel_rfl)
        have es2 : A.tmps[47]? = some (f 17) := hA 47 rfl
        obtain ⟨b, e', hr'⟩ := e17
        rw [e'] at es2
        have hr := hr'.now
        clear hA hJ
        refine rg_append rfl Tryd.slBoolss (ev_of es1) ho (ev_of es2) hr (fun u hu => hy0 u (by simp at hu; subst hu; exact List.mem_cons_self ..)) (by unfold maxLen; omega) (by omega) hS.1.size ?_
        intro a' c' w' ho' hn hb
        exact hK _ (_, w') (fun _ => ⟨Below.trans hS.1 hb, fun b hb => (tagAt_lt (Nat.lt_of_lt_of_le hb hS.1.size)).trans (hS.2 b hb)⟩) hn ⟨a', c', rfl, ho'⟩
      refine StepsL.more (fun f x A hA hS hJ K hK => ?_) ?_
      · have e8 := hJ 8 (by kernel_rfl) (by kernel_rfl)
        have e18 := hJ 18 (by kernel_rfl) (by kernel_rfl)
        have es1 : A.tmps[38]? = some (f 8) := hA 38 rfl
        have es2 : A.tmps[48]? = some (f 18) := hA 48 rfl
        obtain ⟨a, c, e, ho⟩ := e8
        obtain ⟨a', c', e', ho'⟩ := e18
        rw [e] at es1
        rw [e'] at es2
        clear hA hJ
        exact wp_val (v := .agg #[.slice a (Sm.length + 1) c, .slice a' (nl + 1) c']) (w' := x.2) (by go_simp) (hK _ x (fun _ => hS) (Nw.refl x) ⟨a, c, a', c', rfl, ho, ho'⟩)
      refine StepsL.more (fun f x A hA hS hJ K hK => ?_) ?_
      · clear hA hJ
        have hE := ext_al (Ext.refl x.2) (Obj.cells #[.slice none 0 0, .slice none 0 0] 28)
        have hb := blk_new x.2 (Obj.cells #[.slice none 0 0, .slice none 0 0] 28)
        exact wp_val (v := .pointer (some ⟨x.2.heap.size, 0, none⟩)) (w' := x.2.alloc (.cells #[.slice none 0 0, .slice none 0 0] 28)) (by go_simp) (hK _ (tagAt x.1 x.2.heap.size 3, x.2.alloc (.cells #[.slice none 0 0, .slice none 0 0] 28)) (fun _ => ⟨Ext.trans hS.1 hE, fun b hb => (tagAt_lt (Nat.lt_of_lt_of_le hb hS.1.size)).trans (hS.2 b hb)⟩) (Nw.call hE 3) ⟨x.2.heap.size, hS.1.size, rfl, EntB.blk hS.1.size (fun b hb => by rw [hS.2 b hb]; omega) hb⟩)
      refine StepsL.more (fun f x A hA hS hJ K hK => ?_) ?_
      · have ea := hJ 20 (by kernel_rfl) (by kernel_rfl)
        have ev := hJ 19 (by kernel_rfl) (by kernel_rfl)
        have es1 : A.tmps[8]? = some (f 20) := hA 8 rfl
        have es2 : A.tmps[49]? = some (f 19) := hA 49 rfl
        obtain ⟨b, hbB, e, hb⟩ := ea
        obtain ⟨a, c, a', c', e', ho, ho'⟩ := ev
        rw [e] at es1
        rw [e'] at es2
        have hb0 := hb.now
        have hc0 := blk_cell hb0 (i := 0) rfl
        have hc1 := blk_cell hb0 (i := 1) rfl
        have hf0 := blk_free hb0 0
        have hf1 := blk_free hb0 1
        have htb : x.1 b = 3 := by
          by_cases h3 : x.1 b = 3
          · exact h3
          · exfalso
            have := hb.ent (x.2.setCell ⟨b, 0, none⟩ (.int .i64 7)) (by simp) (fun b' _ h => Below.heap_setCell _ _ _ _ (by intro h2; subst h2; exact h3 h))
            rw [blk_set hb0 (i := 0) (.int .i64 7)] at this
            simp at this
        clear hA hJ
        refine wp_skip (w' := (x.2.setCell ⟨b, 0, none⟩ (.slice a (Sm.length + 1) c)).setCell ⟨b, 1, none⟩ (.slice a' (nl + 1) c')) (by go_simp) (hK _ (x.1, (x.2.setCell ⟨b, 0, none⟩ (.slice a (Sm.length + 1) c)).setCell ⟨b, 1, none⟩ (.slice a' (nl + 1) c')) (fun h => absurd rfl h) ⟨by simp, fun _ _ => rfl, fun b' h1 _ h3 => (Below.heap_setCell _ _ _ _ (by intro h2; subst h2; exact h3 (htb.trans rfl))).trans (Below.heap_setCell _ _ _ _ (by intro h2; subst h2; exact h3 (htb.trans rfl)))⟩ ?_)
        have h1 := blk_set (blk_set hb0 (i := 0) (.slice a (Sm.length + 1) c)) (i := 1) (.slice a' (nl + 1) c')
        have hx1 := ext_st (ext_st hS.1 (p := ⟨b, 0, none⟩) hbB (.slice a (Sm.length + 1) c)) (p := ⟨b, 1, none⟩) hbB (.slice a' (nl + 1) c')
        have hk : Nw wc1.heap.size 3 x (x.1, (x.2.setCell ⟨b, 0, none⟩ (.slice a (Sm.length + 1) c)).setCell ⟨b, 1, none⟩ (.slice a' (nl + 1) c')) := ⟨by simp, fun _ _ => rfl, fun b' h1 _ h3 => (Below.heap_setCell _ _ _ _ (by intro h2; subst h2; exact h3 htb)).trans (Below.heap_setCell _ _ _ _ (by intro h2; subst h2; exact h3 htb))⟩
        obtain ⟨a2, c2, ee, hr⟩ := (Nw.own ho hk (by omega)).reads
        cases ee
        obtain ⟨a2, c2, ee, hr'⟩ := (Nw.own ho' hk (by omega)).reads
        cases ee
        exact ⟨b, a, c, a', c', by show some (f 20) = _; rw [e], hx1, h1, hr, hr'⟩
      exact StepsL.done
    · intro f x _ hJ
      have hl := hJ 21 (by decide) rfl
      obtain ⟨b, a, c, a', c', hd, h1, h2, h3, h4⟩ := hl
      have e9 : f 20 = .pointer (some ⟨b, 0, none⟩) := by injection hd
      simp only [allL]
      go_simp
      go_wp2_with fail
      go_meet
      exact ⟨b, a, c, a', c', rfl, h1, h2, h3, h4⟩
  case rest =>
    obtain ⟨bY, aY, cY, aZ, cZ, rfl, hEY, hbY, hrY, hrZ⟩ := hcut
    have W2 : IsW wc (.slice axS Sm.length cxS) (.slice aX (nl + 1 + (nl + 1)) cX) Sm ((k0 :: kt) ++ (k0 :: kt)) :=
      ⟨⟨xsS, HXS.out.ext (HEX1.out.trans hEY), _, _, rfl, xrS.ext hEY⟩, ⟨_, (HXE.out.app HXE.out).ext (HEX1.out.trans hEY), aX, cX, by rw [show ((k0 :: kt) ++ (k0 :: kt)).length = nl + 1 + (nl + 1) by simp; rw [HNL.out]; omega], by rw [show ((k0 :: kt) ++ (k0 :: kt)).length = nl + 1 + (nl + 1) by simp; rw [HNL.out]; omega]; exact hrX.ext hEY⟩⟩
    have W3 : IsW wc (.slice aY (Sm.length + 1) cY) (.slice aZ (nl + 1) cZ) (Sm ++ [k0]) (kt ++ [k0]) :=
      ⟨⟨_, (HXS.out.app HEY.out).ext (HEX1.out.trans hEY), aY, cY, by simp, by simpa using hrY⟩, ⟨_, (HET.out.app HEY.out).ext (HEX1.out.trans hEY), aZ, cZ, by simp [HNL.out], by simpa [HNL.out] using hrZ⟩⟩
    have dur : wc.cell? ⟨bX, 0, none⟩ = some (.slice axS Sm.length cxS) ∧ wc.cell? ⟨bX, 1, none⟩ = some (.slice aX (nl + 1 + (nl + 1)) cX) := ⟨blk_cell (blk_ext HBX.out hEY) rfl, blk_cell (blk_ext HBX.out hEY) rfl⟩
    have eur : wc.cell? ⟨bY, 0, none⟩ = some (.slice aY (Sm.length + 1) cY) ∧ wc.cell? ⟨bY, 1, none⟩ = some (.slice aZ (nl + 1) cZ) := ⟨blk_cell hbY rfl, blk_cell hbY rfl⟩
    replace WW := WW.ext hEY
    replace A0 := A0.ext hEY
    replace TB := TB.ext hEY
    replace cur := two_later hEY cur
    replace EE := EE.trans hEY
    clear hEY hbY hrY hrZ hrX xrL xrS hrT d1 HXE HXS HET HEY HAT hy0 hz0 HBX HEX1 HEX
    have hWW : IsW wc (.slice axS Sm.length cxS) (.slice (some ⟨bL, oL, none⟩) (nl + 1) cxL) Sm (k0 :: kt) := by simpa [HNL.out] using WW
    replace WW := hWW
    clear hWW
    have q0 := cur.1
    have q1 := cur.2
    go_wp2_with fail
    clear q0 q1
    refine (holds_b _ _ _ _ Sm (k0 :: kt) _ _ A0 TB F0.out (by omega) (by omega) WW WOK.out EZ.out).mono ?_
    rintro e wn ⟨rfl, hE⟩
    replace WW := WW.ext hE
    replace W2 := W2.ext hE
    replace W3 := W3.ext hE
    replace A0 := A0.ext hE
    replace TB := TB.ext hE
    replace cur := two_later hE cur
    replace dur := two_later hE dur
    replace eur := two_later hE eur
    replace EE := EE.trans hE
    clear hE
    have q0 := dur.1
    have q1 := dur.2
    go_wp2_with fail
    clear q0 q1
    refine (holds_b _ _ _ _ Sm ((k0 :: kt) ++ (k0 :: kt)) _ _ A0 TB F0.out (by omega) (by omega) W2 HW2.out ETW.out).mono ?_
    rintro e wn ⟨rfl, hE⟩
    replace WW := WW.ext hE
    replace W2 := W2.ext hE
    replace W3 := W3.ext hE
    replace A0 := A0.ext hE
    replace TB := TB.ext hE
    replace cur := two_later hE cur
    replace dur := two_later hE dur
    replace eur := two_later hE eur
    replace EE := EE.trans hE
    clear hE
    have q0 := eur.1
    have q1 := eur.2
    go_wp2_with fail
    clear q0 q1
    refine (holds_b _ _ _ _ (Sm ++ [k0]) (kt ++ [k0]) _ _ A0 TB F0.out (by omega) (by omega) W3 HW3.out ETU.out).mono ?_
    rintro e wn ⟨rfl, hE⟩
    replace WW := WW.ext hE
    replace W2 := W2.ext hE
    replace W3 := W3.ext hE
    replace A0 := A0.ext hE
    replace TB := TB.ext hE
    replace cur := two_later hE cur
    replace dur := two_later hE dur
    replace eur := two_later hE eur
    replace EE := EE.trans hE
    clear hE
    have hE := ext_al (Ext.refl wn) (Obj.cells #[.int .i64 11, .int .i64 0] 41)
    have AY : IsT (wn.alloc (Obj.cells #[.int .i64 11, .int .i64 0] 41)) (.slice (some ⟨wn.heap.size, 0, none⟩) 1 1) (.n0 11 0) := ⟨_, _, rfl, Row.newOp _ _ _ _⟩
    replace WW := WW.ext hE
    replace TB := TB.ext hE
    replace cur := two_later hE cur
    have q0 := cur.1
    have q1 := cur.2
    replace EE := EE.trans hE
    clear hE cur dur eur W2 W3
    go_wp2_with fail
    clear q0 q1
    refine (holds_b _ _ _ _ Sm (k0 :: kt) _ _ AY TB fm_one (by omega) (by omega) WW WOK.out HYES.out).mono ?_
    rintro e wn ⟨rfl, hE⟩
    replace EE := EE.trans hE
    clear hE
    cases bz
    all_goals
      go_wp2
      go_ret
      exact ⟨rfl, EE⟩

end Go.Proofs.YthkiegaifkkegaaDoor
