/- Open: what is needed of it. No condition. -/
import Derived.Test.YthkiegaifkkegaaDoorFill
import Derived.Deep.DeepCutAuto
import Derived.Deep.RegionHeld3
import Derived.Deep.RegionLaw
namespace Go.Proofs.YthkiegaifkkegaaDoor
open Go.RowKit
def nils (n : Nat) : Obj := .cells (madeCells #[.slice none 0 0] n) 32
section
variable (w : World) (aA aB : Option Addr) (nA cA nB cB : Nat) (xA xB : List Value) (hA : Row w 1 aA nA cA xA) (hB : Row w 1 aB nB cB xB)
    (oA : ∀ u ∈ xA, u.oneCell' = true) (oB : ∀ u ∈ xB, u.oneCell' = true) (h0 : 0 < nA + nB) (hn : nA + nB ≤ 1000) (T : TypeId) (k : Nat) (hk : k = w.heap.size)
include hA hB oA oB h0 hn hk
theorem concat_new : Calls Tryd.prog 21 #[.slice (some ⟨k, 0, none⟩) 2 2] (w.alloc (.cells #[.slice aA nA cA, .slice aB nB cB] T)).drew fun e w' => ∃ a c, e = .returned (.slice a (nA + nB) c) ∧ (∀ q : Addr, a = some q → w.heap.size + 1 ≤ q.block ∧ q.block < w'.heap.size) ∧ Row w' 1 a (nA + nB) c (xA ++ xB) ∧ Ext (w.alloc (.cells #[.slice aA nA cA, .slice aB nB cB] T)).drew w' := by
  subst hk
  have hx := Below.drew (ext_al (Ext.refl w) (Obj.cells #[.slice aA nA cA, .slice aB nB cB] T))
  refine (concat_two _ _ aA aB 2 nA cA nB cB xA xB (Row.new w T [.slice aA nA cA, .slice aB nB cB] (by simp [maxLen])).drew (hA.ext hx) (hB.ext hx) oA oB h0 hn).mono ?_
  rintro e w' ⟨a, c, rfl, ho, hE⟩
  obtain ⟨_, _, e, hr⟩ := ho.row
  simp only [Value.slice.injEq] at e
  obtain ⟨rfl, _, rfl⟩ := e
  exact ⟨_, _, rfl, fun q hq => by have := ho.lt q.block (by rw [hq]; rfl); simpa using this, hr, hE⟩
theorem concat_new2 (o : Obj) : Calls Tryd.prog 21 #[.slice (some ⟨k, 0, none⟩) 2 2] ((w.alloc (.cells #[.slice aA nA cA, .slice aB nB cB] T)).alloc o).drew fun e w' => ∃ a c, e = .returned (.slice a (nA + nB) c) ∧ (∀ q : Addr, a = some q → w.heap.size + 2 ≤ q.block ∧ q.block < w'.heap.size) ∧ Row w' 1 a (nA + nB) c (xA ++ xB) ∧ Ext ((w.alloc (.cells #[.slice aA nA cA, .slice aB nB cB] T)).alloc o).drew w' := by
  subst hk
  have hx := Below.drew (ext_al (ext_al (Ext.refl w) (Obj.cells #[.slice aA nA cA, .slice aB nB cB] T)) o)
  have hx2 := ext_al (Ext.refl (w.alloc (.cells #[.slice aA nA cA, .slice aB nB cB] T))) o
  refine (concat_two _ _ aA aB 2 nA cA nB cB xA xB ((Row.new w T [.slice aA nA cA, .slice aB nB cB] (by simp [maxLen])).ext hx2).drew (hA.ext hx) (hB.ext hx) oA oB h0 hn).mono ?_
  rintro e w' ⟨a, c, rfl, ho, hE⟩
  obtain ⟨_, _, e, hr⟩ := ho.row
  simp only [Value.slice.injEq] at e
  obtain ⟨rfl, _, rfl⟩ := e
  exact ⟨_, _, rfl, fun q hq => by have := ho.lt q.block (by rw [hq]; rfl); simpa using this, hr, hE⟩
end
theorem nils_own (w : World) (base n : Nat) (hn : n ≤ 60) (hb : base ≤ w.heap.size) : (w.alloc (nils n)).ownsRow base 32 1 (.slice (some ⟨w.heap.size, 0, none⟩) n n) n (List.replicate n (.slice none 0 0)) := by
  have e := toList_madeCells_one (.slice none 0 0) n
  have h := World.ownsRow_lit (base := base) (e := 32) (size := 1) w (madeCells #[.slice none 0 0] n) n hb (by unfold maxLen; omega) (by rw [← Array.length_toList, e]; simp)
  rw [e] at h
  exact h
def OpenCut (w3 wx : World) (T : Nat) (fv ev : Value) (back n N : Nat) (vs : List Value) : Prop := ∃ (RB : Nat) (ac : Option Addr) (cc : Nat), Ext w3 wx ∧ T ≠ RB ∧ w3.heap.size ≤ T ∧
  wx.heap[T]? = some (.cells #[fv, ev, .slice ac n cc, .int .i64 (back : Int), .slice (some ⟨RB, 0, none⟩) N N] 52 (0, 0)) ∧
    (∃ zs, wx.ownsRow w3.heap.size 32 1 (.slice (some ⟨RB, 0, none⟩) N N) N zs) ∧ Row wx 1 ac n cc vs ∧ ∀ q : Addr, ac = some q → q.block ≠ RB
theorem open_cut {w3 wz : World} {RB T n cc N back : Nat} {ac : Option Addr} {fv ev : Value} {zs vs : List Value} (hT : T = wz.heap.size) (hE : Ext w3 wz) (ho : wz.ownsRow w3.heap.size 32 1 (.slice (some ⟨RB, 0, none⟩) N N) N zs) (hr : Row wz 1 ac n cc vs) (hq : ∀ q : Addr, ac = some q → q.block ≠ RB) :
    OpenCut w3 (wz.alloc (.cells #[fv, ev, .slice ac n cc, .int .i64 (back : Int), .slice (some ⟨RB, 0, none⟩) N N] 52)) T fv ev back n N vs := by
  subst hT
  have hx := ext_al (Ext.refl wz) (Obj.cells #[fv, ev, .slice ac n cc, .int .i64 (back : Int), .slice (some ⟨RB, 0, none⟩) N N] 52)
  have h1 : RB < wz.heap.size := (ho.lt RB rfl).2
  exact ⟨RB, ac, cc, hE.trans hx, by omega, hE.size, blk_new _ _, ⟨_, own_ext ho hx⟩, hr.ext hx, hq⟩
structure TFull (w w' : World) (T : Nat) (t : Tm) (W : Wd) (l : List Op2) : Prop where
  ext : Ext w w'
  tm : ∃ (W2 : World) (RB : Nat) (fv ev : Value) (al : Option Addr) (cl : Nat) (vs : List Value), Ext w W2 ∧ TMem W2 w' T RB l.length fv ev al cl vs W (subs t) 0
set_option maxRecDepth 100000 in
set_option maxHeartbeats 8000000 in
theorem open_any (v sv lv : Value) (l : List Op2) (t : Tm) (Sm Lp : List (List Bool)) (props : Nat) (w : World) (h : Ops w v l) (ht : Tab w) (hf : IsF l (props : Int) t) (hS : BLists w sv Sm) (hL : BLists w lv Lp) (h1 : Sm.length ≤ 12) (h2 : 1 ≤ Lp.length) (h3 : Lp.length ≤ 12) (h4 : ∀ x ∈ Sm ++ Lp, x.length = props) :
    Calls Tryd.prog 13 #[v, .agg #[sv, lv], .int .i64 (props : Int)] w fun e w' => ∃ T, e = .returned (.tuple #[.pointer (some ⟨T, 0, none⟩), .int .i64 0]) ∧ TFull w w' T t ⟨Sm ++ Lp, Sm.length⟩ l := by
  have hen := ends_term t hf.ok hf.small
  rw [hf.flat] at hen
  have hx1 := ext_al (Ext.refl w) (Obj.cells #[sv, lv] 28)
  have bW := blk_new w (Obj.cells #[sv, lv] 28)
  have hp6 : props ≤ 6 := by have := hf.p6; omega
  have HLC := Lib.hid fun wx (hx : Ext w wx) => lcheck_ok v l props t wx (h.ext hx) (ht.ext hx) hf
  have HWC := Lib.hid fun wx (hx : Ext w wx) => wcheck_ok sv lv Sm Lp props wx (hS.ext hx) (hL.ext hx) h1 h2 h3 h4 hp6
  have HEN := Lib.hid fun wx (hx : Ext w wx) => by have H := ends_any v l wx (h.ext hx) (ht.ext hx); rw [hen] at H; exact H
  have hl60 : l.length ≤ 60 := by rw [← hf.flat, Tm.flat_len]; exact hf.small
  have hpos : 0 < l.length := by rw [← hf.flat, Tm.flat_len]; exact t.size_pos
  have hel : (t.ends 0).length = l.length := by rw [Tm.ends_len, ← Tm.flat_len, hf.flat]
  obtain ⟨av, cv, rfl, hrv⟩ := h
  obtain ⟨xs, hES, aS, cS, rfl, hrS⟩ := hS
  obtain ⟨ys, hEL, aL, cL, rfl, hrL⟩ := hL
  have hmk : ∀ wx : World, (Instr.makeSlice 26 (.int .i64 (l.length : Int)) (.int .i64 (l.length : Int))).run Tryd.prog wx = .ok (.slice (some ⟨wx.heap.size, 0, none⟩) l.length l.length) (wx.alloc (nils l.length)) := by
    obtain ⟨i0, hi1, hi2, hi3, hi4⟩ := Tryd.slBoolss.inf
    intro wx
    have h := run_make (P := Tryd.prog) wx 26 32 i0 (.slice none 0 0) Tryd.slBoolss.und hi1 hi2 .i64 .i64 l.length l.length (by omega) (Int.le_refl _) (by rw [hi4]; omega) (by omega)
    rw [hi3] at h
    simpa [nils, Value.cells] using h
  have HRV := Lib.hid hrv
  have HRS := Lib.hid hrS
  have HRL := Lib.hid hrL
  have HES := Lib.hid hES
  have HEL := Lib.hid hEL
  have HF := Lib.hid hf
  have HTB := Lib.hid ht
  have HLT := Lib.hid h4
  have HX1 := Lib.hid hx1
  have BW := Lib.hid bW
  have HEE := Lib.hid hel
  have HMK := Lib.hid hmk
  clear hen hf hrv hrS hrL ht hES hEL hx1 bW hmk h4
  go_enter Tryd.func13, Tryd.ntmps13
  go_wp2_with fail
  refine (HLC.out _ HX1.out).mono ?_
  rintro e w1 ⟨rfl, hE⟩
  have HE1 := Lib.hid (HX1.out.trans hE)
  have b1 := blk_ext BW.out hE
  have BW1 := Lib.hid b1
  have c0 := blk_cell b1 (i := 0) rfl
  have c1 := blk_cell b1 (i := 1) rfl
  clear hE b1 HLC
  go_wp2_with fail
  refine (HWC.out _ HE1.out).mono ?_
  rintro e w2 ⟨rfl, hE⟩
  have HE2 := Lib.hid (HE1.out.trans hE)
  have BW2 := Lib.hid (blk_ext BW1.out hE)
  clear hE HWC c0 c1 BW1
  go_wp2_with fail
  refine (HEN.out _ HE2.out).mono ?_
  rintro e w3 ⟨hE, v3, rfl, hown⟩
  obtain ⟨ae, ce, rfl, hre⟩ := hown.row
  have HRE := Lib.hid hre
  have HE3 := Lib.hid (HE2.out.trans hE)
  have b3 := blk_ext BW2.out hE
  have BW3 := Lib.hid b3
  clear hown hre hE HEN BW2
  generalize hes : t.ends 0 = es at *
  have HE0 := Lib.hid hes
  clear hes
  go_upto_region 8 with fail
  go_cut [12] (fun s12 wx => ∃ T : Nat, s12 = .pointer (some ⟨T, 0, none⟩) ∧ OpenCut w3 wx T (.slice av l.length cv) (.slice ae l.length ce) Sm.length (Sm.length + Lp.length) l.length (xs ++ ys))
  case first =>
    have hmk := HMK.out
    have c0 := blk_cell b3 (i := 0) rfl
    have c1 := blk_cell b3 (i := 1) rfl
    have EX := Ext.refl w3
    go_region_held3 (fun w' => w'.cell? ⟨w.heap.size, 0, none⟩ = some (.slice aS Sm.length cS) ∧ w'.cell? ⟨w.heap.size, 1, none⟩ = some (.slice aL Lp.length cL))
      (first | exact ⟨c0, c1⟩ | exact ⟨cell_later EW c0, cell_later EW c1⟩ | exact ⟨cell_later (ext_al EW _) c0, cell_later (ext_al EW _) c1⟩ | exact ⟨cell_later (ext_al (Ext.refl _) _) c0, cell_later (ext_al (Ext.refl _) _) c1⟩ | exact ⟨cell_later (ext_al (ext_al (Ext.refl _) _) _) c0, cell_later (ext_al (ext_al (Ext.refl _) _) _) c1⟩ | exact ⟨cell_later (Below.drew (Ext.refl _)) c0, cell_later (Below.drew (Ext.refl _)) c1⟩ | exact ⟨cell_later (ext_al (ext_al EW _) _) c0, cell_later (ext_al (ext_al EW _) _) c1⟩ | go_keep)
      (first
        | (go_at_call 21
           with_reducible refine (concat_new w3 aS aL Sm.length cS Lp.length cL xs ys (HRS.out.ext HE3.out) (HRL.out.ext HE3.out) HES.out.one HEL.out.one (by omega) (by omega) 26 _ (by simp)).mono ?_
           rintro e wn ⟨ac, cc, rfl, hqb, hrc, hE⟩
           have EW : Ext w3 wn := Ext.trans (Below.drew (ext_al (Ext.refl w3) _)) hE)
        | (go_at_call 21
           with_reducible refine (concat_new (w3.alloc (nils l.length)) aS aL Sm.length cS Lp.length cL xs ys ((HRS.out.ext HE3.out).ext (ext_al (Ext.refl _) _)) ((HRL.out.ext HE3.out).ext (ext_al (Ext.refl _) _)) HES.out.one HEL.out.one (by omega) (by omega) 26 _ (by simp)).mono ?_
           rintro e wn ⟨ac, cc, rfl, hqb, hrc, hE⟩
           have EW : Ext w3 wn := Ext.trans (Below.drew (ext_al (ext_al (Ext.refl w3) _) _)) hE)
        | (go_at_call 21
           with_reducible refine (concat_new2 w3 aS aL Sm.length cS Lp.length cL xs ys (HRS.out.ext HE3.out) (HRL.out.ext HE3.out) HES.out.one HEL.out.one (by omega) (by omega) 26 _ (by simp) (nils l.length)).mono ?_
           rintro e wn ⟨ac, cc, rfl, hqb, hrc, hE⟩
           have EW : Ext w3 wn := Ext.trans (Below.drew (ext_al (ext_al (Ext.refl w3) _) _)) hE))
    all_goals
      go_wp2_with fail
      go_meet
    · exact ⟨_, rfl, open_cut (by simp) (ext_al EW _) (nils_own wn _ _ hl60 EW.size) (hrc.ext (ext_al (Ext.refl _) _)) fun q hq => by have := (hqb q hq).2; omega⟩
    · have h := nils_own (w3.alloc (Obj.cells #[.slice aS Sm.length cS, .slice aL Lp.length cL] 26)) w3.heap.size _ hl60 (by simp)
      rw [show (w3.alloc (Obj.cells #[.slice aS Sm.length cS, .slice aL Lp.length cL] 26)).heap.size = w3.heap.size + 1 by simp] at h
      exact ⟨_, rfl, open_cut rfl EW (own_ext (own_ext h (Below.drew (Ext.refl _))) hE) hrc fun q hq => by have := (hqb q hq).1; omega⟩
    · have h := own_ext (nils_own w3 w3.heap.size _ hl60 (Nat.le_refl _)) (Below.drew (ext_al (Ext.refl _) (Obj.cells #[.slice aS Sm.length cS, .slice aL Lp.length cL] 26)))
      exact ⟨_, rfl, open_cut rfl EW (own_ext h hE) hrc fun q hq => by have := (hqb q hq).1; simp at this; omega⟩
  case rest =>
    obtain ⟨T, rfl, RB, ac, cc, hE, hne, hlo, hb, ⟨zs, ho⟩, hrc, hq⟩ := hcut
    have hnl : (Wd.mk (Sm ++ Lp) Sm.length).n = Sm.length + Lp.length := by simp [Wd.n]
    rw [← hnl] at hb hrc
    have hTM : TMem w3 wc T RB l.length (.slice av l.length cv) (.slice ae l.length ce) ac cc (xs ++ ys) ⟨Sm ++ Lp, Sm.length⟩ (subs t) l.length :=
      ⟨hE, hb, ⟨zs, ho⟩, hne, hlo, hrc, fun q h _ => hq q h, fun q s h1 h2 => by
        have := (List.getElem?_eq_some_iff.1 h2).1
        rw [subs_len, ← Tm.flat_len, HF.out.flat] at this
        omega⟩
    have HTM := Lib.hid hTM
    have HFI := Lib.hid (show FIn w3 l es (subs t) ⟨Sm ++ Lp, Sm.length⟩ av ae cv ce (xs ++ ys) props from
      ⟨HRV.out.ext HE3.out, by rw [HEE.out]; have := HRE.out; rw [HEE.out] at this; exact this, (HES.out.app HEL.out).ext HE3.out, HLT.out, HTB.out.ext HE3.out, by simp [Wd.n]; omega, by simp [Wd.n]; omega, hl60, HEE.out, by rw [subs_len, ← Tm.flat_len, HF.out.flat]⟩)
    have HSB := Lib.hid fun i (hi : i < l.length) => by have h := subs_at t HF.out.ok i (by rw [← Tm.flat_len, HF.out.flat]; exact hi); rw [HF.out.flat, HE0.out] at h; exact h
    clear hE hb ho hrc hq hTM hnl
    go_wp2_with fail
    go_loopg [13] l.length (fun m x wr => ∃ i : Nat, m = i ∧ i ≤ l.length ∧ x = .int .i64 ((i : Int) - 1) ∧ TMem w3 wr T RB l.length (.slice av l.length cv) (.slice ae l.length ce) ac cc (xs ++ ys) ⟨Sm ++ Lp, Sm.length⟩ (subs t) i)
    case atStart => exact ⟨l.length, rfl, Nat.le_refl _, rfl, HTM.out⟩
    case round =>
      obtain ⟨i, hgi, hil, rfl, hT⟩ := hrel
      have HGI := Lib.hid hgi
      have HT := Lib.hid hT
      clear hgi hT
      cases i with
      | zero =>
        go_wp2
        go_ret2
        exact ⟨T, rfl, HE3.out.trans HT.out.ext, w3, RB, _, _, ac, cc, _, HE3.out, HT.out⟩
      | succ j =>
        obtain ⟨s, hs⟩ := HSB.out j (by omega)
        have hfs := HF.out.fit _ (List.mem_of_getElem? hs.op)
        have HCL := Lib.hid (by have h := fill_any w3 wr T RB j l es (subs t) ⟨Sm ++ Lp, Sm.length⟩ av ae ac cv ce cc (xs ++ ys) props s HFI.out (by rw [HEE.out]; exact HT.out) hs hfs; rw [HEE.out] at h; exact h)
        have haj : ((j + 1 : Nat) : Int) - 1 = (j : Int) := by omega
        have hj0 : (0 : Int) ≤ (j : Int) := by omega
        rw [haj]
        clear haj hs hfs
        go_wp2_with fail
        refine HCL.out.mono ?_
        rintro e w5 ⟨rfl, hT5⟩
        have HT5 := Lib.hid hT5
        clear hT5
        go_wp2_with fail
        go_roundg j
        case measure => have := HGI.out; omega
        case rel => exact ⟨j, rfl, by omega, rfl, HT5.out⟩
theorem TFull.row {w w' : World} {T : Nat} {t : Tm} {W : Wd} {l : List Op2} (h : TFull w w' T t W l) : ∃ (RB : Nat) (fv ev : Value) (al : Option Addr) (cl : Nat), w'.heap[T]? = some (.cells #[fv, ev, .slice al W.n cl, .int .i64 (W.back : Int), .slice (some ⟨RB, 0, none⟩) l.length l.length] 52 (0, 0)) ∧
    ∀ q s, (subs t)[q]? = some s → ∃ R, w'.cell? ⟨RB, q, none⟩ = some (.slice (some ⟨R, 0, none⟩) W.n W.n) ∧ w'.ownsRow w.heap.size 4 1 (.slice (some ⟨R, 0, none⟩) W.n W.n) W.n (rowF W.n (satB W s)) := by
  obtain ⟨W2, RB, fv, ev, al, cl, vs, hE, hT⟩ := h.tm
  refine ⟨RB, fv, ev, al, cl, hT.tb, fun q s hs => ?_⟩
  obtain ⟨R, h1, _, _, h2⟩ := hT.rows q s (Nat.zero_le _) hs
  exact ⟨R, h1, own_down h2 hE.size⟩
end Go.Proofs.YthkiegaifkkegaaDoor
