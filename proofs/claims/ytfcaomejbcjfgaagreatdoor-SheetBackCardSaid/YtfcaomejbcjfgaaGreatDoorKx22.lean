/- Several texts in one: ShY; ShZ; ShVa; ShVb; ShVc; ShSb; ShLa. No condition. -/
import Derived.Test.YtfcaomejbcjfgaaGreatDoorKx17
import Derived.Test.YtfcaomejbcjfgaaGreatDoorKx5
import Derived.Deep.RegionHeld3
import Derived.Test.YtfcaomejbcjfgaaGreatDoorKx14
namespace Go.Proofs.YtfcaomejbcjfgaaGreatDoor
open Go Go.RowKit
theorem Tryz.slOpsR : SlTy Tryz.prog 31 32 (.slice none 0 0) 1 24 := SlTy.mk' Tryz.underlying31 (by kernel_rfl) (by rfl) (by omega)
theorem PadM.prop {τ : Nat → Nat} {w w2 w3 w4 : World} {p B : Nat} {t : Rt} {vv rv pv fv v q : Value} {l : List Op2} (h : PadM (τ, w) p B t vv rv pv fv) (hB : B ≤ w.heap.size) (_ : ∀ b, b < B → τ b ≠ 0) (hE : Ext w w2) (hen : EntB B 0 (tagAt τ w.heap.size 0, w2) fun y => Ops y v l) (hE3 : Ext w2 w3)
    (hown : w4.ownsRow B 32 1 q (t.props.length + 1) (h.props.choose.flatten ++ [v])) (hg : w3.grownBy w4 pv.ownBlock) (hb : q.ownBlock = pv.ownBlock ∨ q.ownBlock = some w3.heap.size) :
    PadF p B w (w4.setCell ⟨p, 2, none⟩ q) ∧ ∃ τ', (∀ b, b < B → τ' b ≠ 0) ∧ PadM (τ', w4.setCell ⟨p, 2, none⟩ q) p B { t with props := t.props ++ [l] } vv rv q fv := by
  have hP2 := h.call hE
  obtain ⟨s1, s2, s3, s4⟩ := h.props.choose_spec
  generalize h.props.choose = css at *
  have k2 : Nw B 9 (τ, w) (tagAt τ w.heap.size 0, w2) := Nw.call hE 0
  have o2 := k2.own s3 (by decide)
  have e2 := fun i cs a p q => k2.ent (s4 i cs a p q) (by decide)
  have hl2 : B ≤ w2.heap.size := Nat.le_trans hB hE.size
  generalize tagAt τ w.heap.size 0 = τ2 at *
  have hold2 : ∀ b, b < B → τ2 b ≠ 0 := hen.old
  have hP3 := hP2.call hE3
  have k3 : Nw B 9 (τ2, w2) (tagAt τ2 w2.heap.size 0, w3) := Nw.call hE3 0
  have o3 := k3.own o2 (by decide)
  have e3 := fun i cs a p q => k3.ent (e2 i cs a p q) (by decide)
  have n3 := k3.ent hen (by decide)
  have hl3 : B ≤ w3.heap.size := Nat.le_trans hl2 hE3.size
  generalize tagAt τ2 w2.heap.size 0 = τ3 at *
  have k4 : Nw B 3 (τ3, w3) (tagAt τ3 w3.heap.size 3, w4) := Nw.app o3 hg
  have o4 := o3.app hown hb
  have hr : ∀ b, pv.ownBlock = some b → B ≤ b := fun b hb => (o3.own.lt b hb).1
  have hblk4 : w4.heap[p]? = some (.cells #[vv, rv, pv, fv] 70 (0, 0)) := blk_grown hP3.blk hg (fun e => by have := hr p e.symm; have := h.low; omega)
  generalize tagAt τ3 w3.heap.size 3 = τ4 at *
  have k5 : Nw B 9 (τ4, w4) (τ4, w4.setCell ⟨p, 2, none⟩ q) := Nw.store _ _ (p := ⟨p, 2, none⟩) h.low _
  refine ⟨(((PadF.ext hE (by have := h.low; omega) hB).trans (PadF.ext hE3 (by have := h.low; omega) hl2)).trans (PadF.grown hg hr h.low hl3)).trans (PadF.set _), τ4, fun b hb => (k4.ent n3 (by decide)).old b hb, h.low, blk_set (i := 2) hblk4 _, (hP3.vars.nw k4 (by decide) (by decide)).nw k5 (by decide) (by decide),
    (hP3.rules.nw k4 (by decide) (by decide) (fun i _ => by omega)).nw k5 (by decide) (by decide) (fun i _ => by omega), ?_, k5.ent (k4.ent hP3.form (by decide)) (by decide)⟩
  exact EachO.snoc s1 s2 (k5.own o4 (by decide)) (fun i cs a p q => k5.ent (k4.ent (e3 i cs a p q) (by decide)) (by decide)) rfl ((k5.ent (k4.ent n3 (by decide)) (by decide)) |> fun e => ⟨e.ent.mono fun y hy => ⟨v, rfl, hy⟩, e.old, e.size⟩)
set_option maxRecDepth 100000 in
set_option maxHeartbeats 8000000 in
theorem line_prop (p B b off : Nat) (x : TW) (t : Rt) (L : List ByteArray) (vv rv pv fv : Value) (hM : PadM x p B t vv rv pv fv) (hB : B ≤ x.2.heap.size) (hold : ∀ b, b < B → x.1 b ≠ 0) (hg : Gl x.2) (hL : StrAt x.2 b off L) (hs : ∀ s ∈ L, s.size ≤ 1000000) (hn : L.length ≤ 1000000) (h0 : 0 < L.length) (htp : t.props.length ≤ 100000)
    (hw : (L.getD 0 ByteArray.empty).data.toList = [112, 114, 111, 112]) :
    Calls Tryz.prog 19 #[.pointer (some ⟨p, 0, none⟩), .slice (some ⟨b, off, none⟩) L.length L.length] x.2 fun e w' => e = .returned (.tuple #[]) ∧ LineP p B x.2 w' (lineR t L) := by
  have HLN := Lib.hid (show lineR t L = { t with props := t.props ++ [termR t.vars (L.drop 1)] } by unfold lineR; rw [hw]; rfl)
  have c0 := hL 0 h0
  rw [show L[0] = L.getD 0 ByteArray.empty by rw [List.getD_eq_getElem?_getD, List.getElem?_eq_getElem h0]; rfl, Nat.add_zero] at c0
  have hw2 : (L.getD 0 ByteArray.empty).toList = [112, 114, 111, 112] := by rw [ByteArray.toList_eq]; exact hw
  have HTM := Lib.hid (show ∀ o wx, (L.length - 1 = 0 ∨ o = off + 1) → Ext x.2 wx → Calls Tryz.prog 34 #[.pointer (some ⟨p, 0, none⟩), .slice (some ⟨b, o, none⟩) (L.length - 1) (L.length - 1)] wx fun e w' => ∃ a k, e = .returned (.slice a (L.length - 1) k) ∧ w'.ownsRow wx.heap.size 79 2 (.slice a (L.length - 1) k) (L.length - 1) ((termR t.vars (L.drop 1)).flatMap opc) ∧ Ext wx w' from fun o wx ho hx => by
    have hd : StrAt wx b o (L.drop 1) := by
      rcases ho with ho | rfl
      · intro i hi; simp at hi; omega
      · exact (hL.drop 1).ext hx
    have := term_any p vv t.vars (L.drop 1) b o (L.length - 1) wx (blk_cell (blk_ext hM.blk hx) (i := 0) rfl) ((show IsVars x.2 vv t.vars from hM.vars.each).ext hx) (hg.ext hx) hd (fun s h => hs s (List.mem_of_mem_drop h)) (by simp; omega)
    rw [List.length_drop] at this
    exact this)
  have HM := Lib.hid hM
  have HOL := Lib.hid hold
  have HB := Lib.hid hB
  have HTL := Lib.hid (show L.length - 1 = (termR t.vars (L.drop 1)).length by simp [termR])
  generalize L.getD 0 ByteArray.empty = s0 at *
  obtain ⟨n, hnn⟩ : ∃ n, L.length = n := ⟨_, rfl⟩
  rw [hnn] at HTM HTL hn h0 ⊢
  obtain ⟨m, rfl⟩ : ∃ m, n = m + 1 := ⟨n - 1, by omega⟩
  simp only [Nat.add_sub_cancel] at HTM HTL
  clear hw hM hold hB hg hL hs hnn
  obtain ⟨τ, w⟩ := x
  simp only at c0 HTM HM HB HOL ⊢
  have c2 := blk_cell HM.out.blk (i := 2) rfl
  obtain ⟨ap, cp, hpv⟩ := EachL.val HM.out.props.each
  subst hpv
  obtain ⟨s1, s2, s3, s4⟩ := HM.out.props.choose_spec
  clear s1 s2 s4
  have HFIN := Lib.hid fun (w2 : World) (v : Value) (w3 w4 : World) (q : Value) (hE : Ext w w2) (hen : EntB B 0 (tagAt τ w.heap.size 0, w2) fun y => Ops y v (termR t.vars (L.drop 1))) (hE3 : Ext w2 w3) (hown : w4.ownsRow B 32 1 q (t.props.length + 1) (HM.out.props.choose.flatten ++ [v])) (hg : w3.grownBy w4 (Value.slice ap t.props.length cp).ownBlock) (hb : q.ownBlock = (Value.slice ap t.props.length cp).ownBlock ∨ q.ownBlock = some w3.heap.size) => (show LineP p B w (w4.setCell ⟨p, 2, none⟩ q) (lineR t L) from by
    obtain ⟨a, τ', b, d⟩ := PadM.prop HM.out HB.out HOL.out hE hen hE3 hown hg hb
    rw [HLN.out]
    exact ⟨a, τ', _, _, _, _, b, d⟩)
  go_enter Tryz.func19, Tryz.ntmps19
  rcases m with _ | m
  · have HT0 := Lib.hid fun wx (hx : Ext w wx) => (show Calls Tryz.prog 34 #[.pointer (some ⟨p, 0, none⟩), .slice (some ⟨b, off, none⟩) 0 0] wx fun e w' => ∃ a k, e = .returned (.slice a 0 k) ∧ w'.ownsRow wx.heap.size 79 2 (.slice a 0 k) 0 ((termR t.vars (L.drop 1)).flatMap opc) ∧ Ext wx w' from HTM.out off wx (.inl rfl) hx)
    clear HTM
    go_upto_region 26 with fail

    go_region_law (first
      | (refine step_append rfl rfl Tryz.slOpsR B (by rfl) (own_ext s3.own (ext_al hE2 _)) (by rfl) (Row.one _ _ _) (by simp [Value.oneCell']) (by unfold maxLen; omega) (by omega) (by have := HB.out; have := hE2.size; simp; omega) ?_
         intro v4 w4 hown4 hg4 hb4 _
         obtain ⟨a4, c4, rfl, _⟩ := hown4.row
         have hblk4 := blk_grown (blk_ext HM.out.blk (ext_al hE2 _)) hg4 (fun e => by have := (s3.own.lt p e.symm).1; have := HM.out.low; omega)
         have z2 := blk_free hblk4 2
         have c9 := blk_cell hblk4 (i := 2) rfl
         have HF := Lib.hid (HFIN.out w2 _ _ w4 (.slice a4 (t.props.length + 1) c4) hE2 (ent_made (x := (τ, w)) HB.out hE2 HOL.out HTL.out ho) (ext_al (Ext.refl _) _) hown4 hg4 hb4))
      | (go_simp
         go_at_call 34
         refine (HT0.out _ (Below.drew (Ext.refl _))).mono ?_
         rintro e w2 ⟨a, k, rfl, ho, hE⟩
         have hE2 := Ext.trans (Below.drew (Ext.refl w)) hE
         replace c2 := cell_later hE2 c2
         have c2b : ∀ o, (w2.alloc o).cell? ⟨p, 2, none⟩ = some (.slice ap t.props.length cp) := fun o => cell_later (ext_al (Ext.refl _) o) c2))
    all_goals
      go_wp2
      go_end0
      exact ⟨rfl, HF.out⟩
  · have HT0 := Lib.hid fun wx (hx : Ext w wx) => (show Calls Tryz.prog 34 #[.pointer (some ⟨p, 0, none⟩), .slice (some ⟨b, (off + 1), none⟩) (m + 1) (m + 1)] wx fun e w' => ∃ a k, e = .returned (.slice a (m + 1) k) ∧ w'.ownsRow wx.heap.size 79 2 (.slice a (m + 1) k) (m + 1) ((termR t.vars (L.drop 1)).flatMap opc) ∧ Ext wx w' from HTM.out (off + 1) wx (.inr rfl) hx)
    clear HTM
    go_upto_region 26 with fail
    have y1 : (1 : Int) ≤ (m : Int) + 1 + 1 := by omega
    go_region_law (first
      | (refine step_append rfl rfl Tryz.slOpsR B (by rfl) (own_ext s3.own (ext_al hE2 _)) (by rfl) (Row.one _ _ _) (by simp [Value.oneCell']) (by unfold maxLen; omega) (by omega) (by have := HB.out; have := hE2.size; simp; omega) ?_
         intro v4 w4 hown4 hg4 hb4 _
         obtain ⟨a4, c4, rfl, _⟩ := hown4.row
         have hblk4 := blk_grown (blk_ext HM.out.blk (ext_al hE2 _)) hg4 (fun e => by have := (s3.own.lt p e.symm).1; have := HM.out.low; omega)
         have z2 := blk_free hblk4 2
         have c9 := blk_cell hblk4 (i := 2) rfl
         have HF := Lib.hid (HFIN.out w2 _ _ w4 (.slice a4 (t.props.length + 1) c4) hE2 (ent_made (x := (τ, w)) HB.out hE2 HOL.out HTL.out ho) (ext_al (Ext.refl _) _) hown4 hg4 hb4))
      | (go_simp
         go_at_call 34
         refine (HT0.out _ (Below.drew (Ext.refl _))).mono ?_
         rintro e w2 ⟨a, k, rfl, ho, hE⟩
         have hE2 := Ext.trans (Below.drew (Ext.refl w)) hE
         replace c2 := cell_later hE2 c2
         have c2b : ∀ o, (w2.alloc o).cell? ⟨p, 2, none⟩ = some (.slice ap t.props.length cp) := fun o => cell_later (ext_al (Ext.refl _) o) c2))
    all_goals
      go_wp2
      go_end0
      exact ⟨rfl, HF.out⟩
end Go.Proofs.YtfcaomejbcjfgaaGreatDoor

namespace Go.Proofs.YtfcaomejbcjfgaaGreatDoor
open Go Go.RowKit
theorem PadM.rule {τ : Nat → Nat} {w w2 w3 w4 : World} {p B : Nat} {t : Rt} {vv rv pv fv v q : Value} {l : List Op2} (h : PadM (τ, w) p B t vv rv pv fv) (hB : B ≤ w.heap.size) (hE : Ext w w2) (hen : EntB B 0 (tagAt τ w.heap.size 0, w2) fun y => Ops y v l) (hE3 : Ext w2 w3)
    (hown : w4.ownsRow B 46 2 q (t.rules.length + 1) (h.rules.choose.flatMap (fun c => [c.1, c.2]) ++ [v, .slice none 0 0])) (hg : w3.grownBy w4 rv.ownBlock) (hb : q.ownBlock = rv.ownBlock ∨ q.ownBlock = some w3.heap.size) :
    LineP p B w (w4.setCell ⟨p, 1, none⟩ q) { t with rules := t.rules ++ [⟨l, []⟩] } := by
  have hP2 := h.call hE
  obtain ⟨s1, s3, s4⟩ := h.rules.choose_spec
  generalize h.rules.choose = css at *
  have k2 : ∀ s, Nw B s (τ, w) (tagAt τ w.heap.size 0, w2) := fun s => Nw.call hE 0
  have o2 := (k2 9).own s3 (by decide)
  have e2 := fun i c r p q => (k2 9).ent (s4 i c r p q).1 (by decide)
  have f2 := fun i c r p q => (s4 i c r p q).2.nw (k2 9) (by omega) (by decide)
  have hl2 : B ≤ w2.heap.size := Nat.le_trans hB hE.size
  generalize tagAt τ w.heap.size 0 = τ2 at *
  have hP3 := hP2.call hE3
  have k3 : Nw B 9 (τ2, w2) (tagAt τ2 w2.heap.size 0, w3) := Nw.call hE3 0
  have o3 := k3.own o2 (by decide)
  have e3 := fun i c r p q => k3.ent (e2 i c r p q) (by decide)
  have f3 := fun i c r p q => (f2 i c r p q).nw k3 (by omega) (by decide)
  have n3 := k3.ent hen (by decide)
  have hl3 : B ≤ w3.heap.size := Nat.le_trans hl2 hE3.size
  generalize tagAt τ2 w2.heap.size 0 = τ3 at *
  have k4 : Nw B 2 (τ3, w3) (tagAt τ3 w3.heap.size 2, w4) := Nw.app o3 hg
  have o4 := o3.app hown hb
  have hr : ∀ b, rv.ownBlock = some b → B ≤ b := fun b hb => (o3.own.lt b hb).1
  have hblk4 : w4.heap[p]? = some (.cells #[vv, rv, pv, fv] 70 (0, 0)) := blk_grown hP3.blk hg (fun e => by have := hr p e.symm; have := h.low; omega)
  generalize tagAt τ3 w3.heap.size 2 = τ4 at *
  have k5 : Nw B 9 (τ4, w4) (τ4, w4.setCell ⟨p, 1, none⟩ q) := Nw.store _ _ (p := ⟨p, 1, none⟩) h.low _
  have n5 := k5.ent (k4.ent n3 (by decide)) (by decide)
  refine ⟨(((PadF.ext hE (by have := h.low; omega) hB).trans (PadF.ext hE3 (by have := h.low; omega) hl2)).trans (PadF.grown hg hr h.low hl3)).trans (PadF.set _), τ4, vv, q, pv, fv, n5.old, h.low, blk_set (i := 1) hblk4 _, (hP3.vars.nw k4 (by decide) (by decide)).nw k5 (by decide) (by decide),
    ?_, (hP3.props.nw k4 (by decide) (by decide)).nw k5 (by decide) (by decide), k5.ent (k4.ent hP3.form (by decide)) (by decide)⟩
  refine ⟨css ++ [(v, .slice none 0 0)], by simp [s1], ?_, ?_⟩
  · have := k5.own o4 (by decide)
    simpa using this
  · intro i c r hc hr
    by_cases hi : i < t.rules.length
    · rw [List.getElem?_append_left (by omega)] at hc hr
      exact ⟨k5.ent (k4.ent (e3 i c r hc hr) (by decide)) (by decide), ((f3 i c r hc hr).nw k4 (by omega) (by decide)).nw k5 (by omega) (by decide)⟩
    · rw [List.getElem?_append_right (by omega)] at hc hr
      have e0 : i - t.rules.length = 0 := by have := (List.getElem?_eq_some_iff.1 hr).1; simp at this; omega
      rw [s1, e0] at hc
      rw [e0] at hr
      simp at hc hr
      subst hc; subst hr
      exact ⟨n5, EachO.nil _ _ _ _ _ _⟩
set_option maxRecDepth 100000 in
set_option maxHeartbeats 8000000 in
theorem line_rule (p B b off : Nat) (x : TW) (t : Rt) (L : List ByteArray) (vv rv pv fv : Value) (hM : PadM x p B t vv rv pv fv) (hB : B ≤ x.2.heap.size) (hold : ∀ b, b < B → x.1 b ≠ 0) (hg : Gl x.2) (hL : StrAt x.2 b off L) (hs : ∀ s ∈ L, s.size ≤ 1000000) (hn : L.length ≤ 1000000) (h0 : 0 < L.length) (htp : t.rules.length ≤ 100000)
    (hw : (L.getD 0 ByteArray.empty).data.toList = [114, 117, 108, 101]) :
    Calls Tryz.prog 19 #[.pointer (some ⟨p, 0, none⟩), .slice (some ⟨b, off, none⟩) L.length L.length] x.2 fun e w' => e = .returned (.tuple #[]) ∧ LineP p B x.2 w' (lineR t L) := by
  have HLN := Lib.hid (show lineR t L = { t with rules := t.rules ++ [⟨termR t.vars (L.drop 1), []⟩] } by unfold lineR; rw [hw]; rfl)
  have c0 := hL 0 h0
  rw [show L[0] = L.getD 0 ByteArray.empty by rw [List.getD_eq_getElem?_getD, List.getElem?_eq_getElem h0]; rfl, Nat.add_zero] at c0
  have hw2 : (L.getD 0 ByteArray.empty).toList = [114, 117, 108, 101] := by rw [ByteArray.toList_eq]; exact hw
  have HTM := Lib.hid (show ∀ o wx, (L.length - 1 = 0 ∨ o = off + 1) → Ext x.2 wx → Calls Tryz.prog 34 #[.pointer (some ⟨p, 0, none⟩), .slice (some ⟨b, o, none⟩) (L.length - 1) (L.length - 1)] wx fun e w' => ∃ a k, e = .returned (.slice a (L.length - 1) k) ∧ w'.ownsRow wx.heap.size 79 2 (.slice a (L.length - 1) k) (L.length - 1) ((termR t.vars (L.drop 1)).flatMap opc) ∧ Ext wx w' from fun o wx ho hx => by
    have hd : StrAt wx b o (L.drop 1) := by
      rcases ho with ho | rfl
      · intro i hi; simp at hi; omega
      · exact (hL.drop 1).ext hx
    have := term_any p vv t.vars (L.drop 1) b o (L.length - 1) wx (blk_cell (blk_ext hM.blk hx) (i := 0) rfl) ((show IsVars x.2 vv t.vars from hM.vars.each).ext hx) (hg.ext hx) hd (fun s h => hs s (List.mem_of_mem_drop h)) (by simp; omega)
    rw [List.length_drop] at this
    exact this)
  have HM := Lib.hid hM
  have HOL := Lib.hid hold
  have HB := Lib.hid hB
  have HTL := Lib.hid (show L.length - 1 = (termR t.vars (L.drop 1)).length by simp [termR])
  generalize L.getD 0 ByteArray.empty = s0 at *
  obtain ⟨n, hnn⟩ : ∃ n, L.length = n := ⟨_, rfl⟩
  rw [hnn] at HTM HTL hn h0 ⊢
  obtain ⟨m, rfl⟩ : ∃ m, n = m + 1 := ⟨n - 1, by omega⟩
  simp only [Nat.add_sub_cancel] at HTM HTL
  clear hw hM hold hB hg hL hs hnn
  obtain ⟨τ, w⟩ := x
  simp only at c0 HTM HM HB HOL ⊢
  have c2 := blk_cell HM.out.blk (i := 1) rfl
  obtain ⟨ap, cp, hpv⟩ := EachL.val HM.out.rules.each
  subst hpv
  obtain ⟨s1, s3, s4⟩ := HM.out.rules.choose_spec
  clear s1 s4
  have HFIN := Lib.hid fun (w2 : World) (v : Value) (w3 w4 : World) (q : Value) (hE : Ext w w2) (hen : EntB B 0 (tagAt τ w.heap.size 0, w2) fun y => Ops y v (termR t.vars (L.drop 1))) (hE3 : Ext w2 w3) (hown : w4.ownsRow B 46 2 q (t.rules.length + 1) (HM.out.rules.choose.flatMap (fun c => [c.1, c.2]) ++ [v, .slice none 0 0])) (hg : w3.grownBy w4 (Value.slice ap t.rules.length cp).ownBlock) (hb : q.ownBlock = (Value.slice ap t.rules.length cp).ownBlock ∨ q.ownBlock = some w3.heap.size) => (show LineP p B w (w4.setCell ⟨p, 1, none⟩ q) (lineR t L) from by
    rw [HLN.out]
    exact PadM.rule HM.out HB.out hE hen hE3 hown hg hb)
  go_enter Tryz.func19, Tryz.ntmps19
  rcases m with _ | m
  · have HT0 := Lib.hid fun wx (hx : Ext w wx) => (show Calls Tryz.prog 34 #[.pointer (some ⟨p, 0, none⟩), .slice (some ⟨b, off, none⟩) 0 0] wx fun e w' => ∃ a k, e = .returned (.slice a 0 k) ∧ w'.ownsRow wx.heap.size 79 2 (.slice a 0 k) 0 ((termR t.vars (L.drop 1)).flatMap opc) ∧ Ext wx w' from HTM.out off wx (.inl rfl) hx)
    clear HTM
    go_upto_region 20 with fail
    go_region_law (first
      | (refine step_append rfl rfl Tryz.slRules B (by rfl) (own_ext s3.own (ext_al hE2 _)) (by rfl) (Row.newK _ _ _ _ [_, _] rfl rfl) (by intro u hu; simp only [List.mem_cons, List.not_mem_nil, or_false] at hu; rcases hu with rfl | rfl <;> rfl) (by unfold maxLen; omega) (by omega) (by have := HB.out; have := hE2.size; simp; omega) ?_
         intro v4 w4 hown4 hg4 hb4 _
         obtain ⟨a4, c4, rfl, _⟩ := hown4.row
         have hblk4 := blk_grown (blk_ext HM.out.blk (ext_al hE2 _)) hg4 (fun e => by have := (s3.own.lt p e.symm).1; have := HM.out.low; omega)
         have z1 := blk_free hblk4 1
         have c9 := blk_cell hblk4 (i := 1) rfl
         have HF := Lib.hid (HFIN.out w2 _ _ w4 (.slice a4 (t.rules.length + 1) c4) hE2 (ent_made (x := (τ, w)) HB.out hE2 HOL.out HTL.out ho) (ext_al (Ext.refl _) _) hown4 hg4 hb4))
      | (go_simp
         go_at_call 34
         refine (HT0.out _ (Below.drew (Ext.refl _))).mono ?_
         rintro e w2 ⟨a, k, rfl, ho, hE⟩
         have hE2 := Ext.trans (Below.drew (Ext.refl w)) hE
         replace c2 := cell_later hE2 c2
         have c2b : ∀ o, (w2.alloc o).cell? ⟨p, 1, none⟩ = some (.slice ap t.rules.length cp) := fun o => cell_later (ext_al (Ext.refl _) o) c2))
    all_goals
      go_wp2
      go_end0
      exact ⟨rfl, HF.out⟩
  · have HT0 := Lib.hid fun wx (hx : Ext w wx) => (show Calls Tryz.prog 34 #[.pointer (some ⟨p, 0, none⟩), .slice (some ⟨b, (off + 1), none⟩) (m + 1) (m + 1)] wx fun e w' => ∃ a k, e = .returned (.slice a (m + 1) k) ∧ w'.ownsRow wx.heap.size 79 2 (.slice a (m + 1) k) (m + 1) ((termR t.vars (L.drop 1)).flatMap opc) ∧ Ext wx w' from HTM.out (off + 1) wx (.inr rfl) hx)
    clear HTM
    go_upto_region 20 with fail
    have y1 : (1 : Int) ≤ (m : Int) + 1 + 1 := by omega
    go_region_law (first
      | (refine step_append rfl rfl Tryz.slRules B (by rfl) (own_ext s3.own (ext_al hE2 _)) (by rfl) (Row.newK _ _ _ _ [_, _] rfl rfl) (by intro u hu; simp only [List.mem_cons, List.not_mem_nil, or_false] at hu; rcases hu with rfl | rfl <;> rfl) (by unfold maxLen; omega) (by omega) (by have := HB.out; have := hE2.size; simp; omega) ?_
         intro v4 w4 hown4 hg4 hb4 _
         obtain ⟨a4, c4, rfl, _⟩ := hown4.row
         have hblk4 := blk_grown (blk_ext HM.out.blk (ext_al hE2 _)) hg4 (fun e => by have := (s3.own.lt p e.symm).1; have := HM.out.low; omega)
         have z1 := blk_free hblk4 1
         have c9 := blk_cell hblk4 (i := 1) rfl
         have HF := Lib.hid (HFIN.out w2 _ _ w4 (.slice a4 (t.rules.length + 1) c4) hE2 (ent_made (x := (τ, w)) HB.out hE2 HOL.out HTL.out ho) (ext_al (Ext.refl _) _) hown4 hg4 hb4))
      | (go_simp
         go_at_call 34
         refine (HT0.out _ (Below.drew (Ext.refl _))).mono ?_
         rintro e w2 ⟨a, k, rfl, ho, hE⟩
         have hE2 := Ext.trans (Below.drew (Ext.refl w)) hE
         replace c2 := cell_later hE2 c2
         have c2b : ∀ o, (w2.alloc o).cell? ⟨p, 1, none⟩ = some (.slice ap t.rules.length cp) := fun o => cell_later (ext_al (Ext.refl _) o) c2))
    all_goals
      go_wp2
      go_end0
      exact ⟨rfl, HF.out⟩
end Go.Proofs.YtfcaomejbcjfgaaGreatDoor

namespace Go.Proofs.YtfcaomejbcjfgaaGreatDoor
open Go Go.RowKit
theorem PadM.var {τ : Nat → Nat} {w w2 w3 w4 : World} {p B : Nat} {t : Rt} {vv rv pv fv q : Value} {u : Vr} (h : PadM (τ, w) p B t vv rv pv fv) (hB : B ≤ w.heap.size) (hold : ∀ b, b < B → τ b ≠ 0) (hE : Ext w w2) (hE3 : Ext w2 w3)
    (hown : w4.ownsRow B 43 4 q (t.vars.length + 1) (h.vars.choose.flatten ++ vrc u)) (hg : w3.grownBy w4 vv.ownBlock) (hb : q.ownBlock = vv.ownBlock ∨ q.ownBlock = some w3.heap.size) :
    LineP p B w (w4.setCell ⟨p, 0, none⟩ q) { t with vars := t.vars ++ [u] } := by
  have hP2 := h.call hE
  obtain ⟨s1, s2, s3, s4⟩ := h.vars.choose_spec
  generalize h.vars.choose = css at *
  have k2 : Nw B 9 (τ, w) (tagAt τ w.heap.size 0, w2) := Nw.call hE 0
  have o2 := k2.own s3 (by decide)
  have hl2 : B ≤ w2.heap.size := Nat.le_trans hB hE.size
  have hold2 : ∀ b, b < B → tagAt τ w.heap.size 0 b ≠ 0 := fun b hb => by rw [tagAt_lt (by omega)]; exact hold b hb
  generalize tagAt τ w.heap.size 0 = τ2 at *
  have hP3 := hP2.call hE3
  have k3 : Nw B 9 (τ2, w2) (tagAt τ2 w2.heap.size 0, w3) := Nw.call hE3 0
  have o3 := k3.own o2 (by decide)
  have hl3 : B ≤ w3.heap.size := Nat.le_trans hl2 hE3.size
  have hold3 : ∀ b, b < B → tagAt τ2 w2.heap.size 0 b ≠ 0 := fun b hb => by rw [tagAt_lt (by omega)]; exact hold2 b hb
  generalize tagAt τ2 w2.heap.size 0 = τ3 at *
  have k4 : Nw B 1 (τ3, w3) (tagAt τ3 w3.heap.size 1, w4) := Nw.app o3 hg
  have o4 := o3.app hown hb
  have hr : ∀ b, vv.ownBlock = some b → B ≤ b := fun b hb => (o3.own.lt b hb).1
  have hblk4 : w4.heap[p]? = some (.cells #[vv, rv, pv, fv] 70 (0, 0)) := blk_grown hP3.blk hg (fun e => by have := hr p e.symm; have := h.low; omega)
  have hold4 : ∀ b, b < B → tagAt τ3 w3.heap.size 1 b ≠ 0 := fun b hb => by rw [tagAt_lt (by omega)]; exact hold3 b hb
  have hl4 : B ≤ w4.heap.size := Nat.le_trans hl3 hg.size
  generalize tagAt τ3 w3.heap.size 1 = τ4 at *
  have k5 : Nw B 9 (τ4, w4) (τ4, w4.setCell ⟨p, 0, none⟩ q) := Nw.store _ _ (p := ⟨p, 0, none⟩) h.low _
  refine ⟨(((PadF.ext hE (by have := h.low; omega) hB).trans (PadF.ext hE3 (by have := h.low; omega) hl2)).trans (PadF.grown hg hr h.low hl3)).trans (PadF.set _), τ4, q, rv, pv, fv, hold4, h.low, blk_set (i := 0) hblk4 _, ?_,
    (hP3.rules.nw k4 (by decide) (by decide) (fun i _ => by omega)).nw k5 (by decide) (by decide) (fun i _ => by omega), (hP3.props.nw k4 (by decide) (by decide)).nw k5 (by decide) (by decide), k5.ent (k4.ent hP3.form (by decide)) (by decide)⟩
  have hv : ∀ cs a, VarE w4 a cs → EntB B 0 (τ4, w4.setCell ⟨p, 0, none⟩ q) fun y => VarE y a cs := fun cs a hc => ⟨fun y _ _ => hc, hold4, by simpa using hl4⟩
  exact EachO.snoc s1 s2 (k5.own o4 (by decide)) (fun i cs a p q => hv cs a (s4 i cs a p q).now) rfl (hv _ _ rfl)
end Go.Proofs.YtfcaomejbcjfgaaGreatDoor

namespace Go.Proofs.YtfcaomejbcjfgaaGreatDoor
open Go Go.RowKit
theorem varR_0 (L : List ByteArray) (h : 0 + 1 < L.length) : varR (L.take (0 + 1 + 1)) = { varR (L.take (0 + 1)) with name := L[0 + 1] } := by
  simp [varR, wordN, List.getElem?_take, List.getD_eq_getElem?_getD, h]
theorem varR_1 (L : List ByteArray) (h : 1 + 1 < L.length) : varR (L.take (1 + 1 + 1)) = { varR (L.take (1 + 1)) with low := atoiN L[1 + 1].data.toList } := by
  simp [varR, wordN, List.getElem?_take, List.getD_eq_getElem?_getD, h]
theorem varR_2 (L : List ByteArray) (h : 2 + 1 < L.length) : varR (L.take (2 + 1 + 1)) = { varR (L.take (2 + 1)) with high := atoiN L[2 + 1].data.toList } := by
  simp [varR, wordN, List.getElem?_take, List.getD_eq_getElem?_getD, h]
theorem varR_3 (L : List ByteArray) (h : 3 + 1 < L.length) : varR (L.take (3 + 1 + 1)) = { varR (L.take (3 + 1)) with init := atoiN L[3 + 1].data.toList } := by
  simp [varR, wordN, List.getElem?_take, List.getD_eq_getElem?_getD, h]
theorem varR_5 (L : List ByteArray) {i : Nat} (_ : i + 1 < L.length) (hi : 4 ≤ i) : varR (L.take (i + 1 + 1)) = varR (L.take (i + 1)) := by
  simp [varR, wordN, List.getD_eq_getElem?_getD, show 1 < i + 1 + 1 by omega, show 2 < i + 1 + 1 by omega, show 3 < i + 1 + 1 by omega, show 4 < i + 1 + 1 by omega, show 1 < i + 1 by omega, show 2 < i + 1 by omega, show 3 < i + 1 by omega, show 4 < i + 1 by omega]
set_option maxRecDepth 100000 in
set_option maxHeartbeats 8000000 in
theorem line_var (p B b off : Nat) (x : TW) (t : Rt) (L : List ByteArray) (vv rv pv fv : Value) (hM : PadM x p B t vv rv pv fv) (hB : B ≤ x.2.heap.size) (hold : ∀ b, b < B → x.1 b ≠ 0) (hg : Gl x.2) (hL : StrAt x.2 b off L) (hs : ∀ s ∈ L, s.size ≤ 1000000) (hn : L.length ≤ 1000000) (h0 : 1 < L.length) (htp : t.vars.length ≤ 100000)
    (hw : (L.getD 0 ByteArray.empty).data.toList = [118, 97, 114]) :
    Calls Tryz.prog 19 #[.pointer (some ⟨p, 0, none⟩), .slice (some ⟨b, off, none⟩) L.length L.length] x.2 fun e w' => e = .returned (.tuple #[]) ∧ LineP p B x.2 w' (lineR t L) := by
  have HLN := Lib.hid (show lineR t L = { t with vars := t.vars ++ [varR L] } by unfold lineR; rw [hw]; rfl)
  have c0 := hL 0 (by omega)
  rw [show L[0] = L.getD 0 ByteArray.empty by rw [List.getD_eq_getElem?_getD, List.getElem?_eq_getElem (by omega)]; rfl, Nat.add_zero] at c0
  have hw2 : (L.getD 0 ByteArray.empty).toList = [118, 97, 114] := by rw [ByteArray.toList_eq]; exact hw
  have HM := Lib.hid hM
  have HOL := Lib.hid hold
  have HB := Lib.hid hB
  have HG := Lib.hid hg
  have HL := Lib.hid hL
  have HS := Lib.hid hs
  generalize L.getD 0 ByteArray.empty = s0 at *
  obtain ⟨m, hm⟩ : ∃ m, L.length = m + 1 + 1 := ⟨L.length - 2, by omega⟩
  have HLL := Lib.hid hm
  rw [hm] at hn h0 ⊢
  clear hw hM hold hB hg hL hs hm
  obtain ⟨τ, w⟩ := x
  simp only at c0 HM HB HOL HG HL ⊢
  have y1 : (1 : Int) ≤ (m : Int) + 1 + 1 := by omega
  go_enter Tryz.func19, Tryz.ntmps19
  go_wp2_with fail
  have hbk := blk_new w (Obj.cells #[.string ⟨#[]⟩, .int .i64 0, .int .i64 0, .int .i64 0] 43)
  have HBK0 := Lib.hid hbk
  have HE0 := Lib.hid (ext_al (Ext.refl w) (Obj.cells #[.string ⟨#[]⟩, .int .i64 0, .int .i64 0, .int .i64 0] 43))
  have HV0 := Lib.hid (show vrc (varR (L.take (0 + 1))) = [.string ⟨#[]⟩, .int .i64 0, .int .i64 0, .int .i64 0] by simp [varR, wordN, List.getElem?_take, List.getD_eq_getElem?_getD, vrc]; rfl)
  generalize w.alloc (Obj.cells #[.string ⟨#[]⟩, .int .i64 0, .int .i64 0, .int .i64 0] 43) = W1 at *
  clear hbk c0 y1
  go_loopg [25] (m + 1) (fun q z wr => ∃ i : Nat, q + i = m + 1 ∧ z = .int .i64 (i : Int) ∧ Ext w wr ∧ wr.heap[w.heap.size]? = some (.cells (vrc (varR (L.take (i + 1)))).toArray 43 (0, 0)))
  case atStart => exact ⟨0, by omega, by go_num, HE0.out, by rw [HV0.out]; exact HBK0.out⟩
  case round =>
    obtain ⟨i, hmi, rfl, hE, hbk⟩ := hrel
    have HMI := Lib.hid hmi
    have HE := Lib.hid hE
    clear hmi
    by_cases hi : i < m + 1
    · have hi2 : i + 1 < L.length := by have := HLL.out; omega
      have cs := cell_later hE (HL.out (i + 1) hi2)
      rw [show off + (i + 1) = off + 1 + i by omega] at cs
      have HAT := Lib.hid fun wx (hx : Ext w wx) => atoi_any L[i + 1] wx (HS.out _ (by simp)) (HG.out.ext hx)
      obtain ⟨vr, hvr⟩ : ∃ vr, varR (L.take (i + 1)) = vr := ⟨_, rfl⟩
      rw [hvr] at hbk
      have HBK := Lib.hid hbk
      have hiI : (i : Int) < (m : Int) + 1 := by omega
      have hi0 : (0 : Int) ≤ (i : Int) := by omega
      clear hE hbk
      have hk : i = 0 ∨ i = 1 ∨ i = 2 ∨ i = 3 ∨ 4 ≤ i := by omega
      rcases hk with hk | hk | hk | hk | hk
      · obtain rfl : i = 0 := hk
        have HST := Lib.hid (varR_0 L hi2)
        rw [hvr] at HST
        
        go_wp2_with fail
        refine (HAT.out wr HE.out).mono ?_
        rintro e w2 ⟨r2, rfl, hE2⟩
        have HB2 := Lib.hid (blk_ext HBK.out hE2)
        have HE2 := Lib.hid (HE.out.trans hE2)
        have d0 := blk_cell HB2.out (i := 0) rfl
        have d1 := blk_cell HB2.out (i := 1) rfl
        have d2 := blk_cell HB2.out (i := 2) rfl
        have d3 := blk_cell HB2.out (i := 3) rfl
        have z0 := blk_free HB2.out 0
        have z1 := blk_free HB2.out 1
        have z2 := blk_free HB2.out 2
        have z3 := blk_free HB2.out 3
        clear hE2 cs
        go_wp2_with fail
        go_roundg (gk - 1)
        case measure => have := HMI.out; omega
        case rel => exact ⟨0 + 1, by have := HMI.out; omega, by go_num, HE2.out.setCell (Nat.le_refl _) _, by rw [HST.out]; exact blk_set (i := 0) HB2.out _⟩
      · obtain rfl : i = 1 := hk
        have HST := Lib.hid (varR_1 L hi2)
        rw [hvr] at HST
        
        go_wp2_with fail
        refine (HAT.out wr HE.out).mono ?_
        rintro e w2 ⟨r2, rfl, hE2⟩
        have HB2 := Lib.hid (blk_ext HBK.out hE2)
        have HE2 := Lib.hid (HE.out.trans hE2)
        have d0 := blk_cell HB2.out (i := 0) rfl
        have d1 := blk_cell HB2.out (i := 1) rfl
        have d2 := blk_cell HB2.out (i := 2) rfl
        have d3 := blk_cell HB2.out (i := 3) rfl
        have z0 := blk_free HB2.out 0
        have z1 := blk_free HB2.out 1
        have z2 := blk_free HB2.out 2
        have z3 := blk_free HB2.out 3
        clear hE2 cs
        go_wp2_with fail
        go_roundg (gk - 1)
        case measure => have := HMI.out; omega
        case rel => exact ⟨1 + 1, by have := HMI.out; omega, by go_num, HE2.out.setCell (Nat.le_refl _) _, by rw [HST.out]; exact blk_set (i := 1) HB2.out _⟩
      · obtain rfl : i = 2 := hk
        have HST := Lib.hid (varR_2 L hi2)
        rw [hvr] at HST
        
        go_wp2_with fail
        refine (HAT.out wr HE.out).mono ?_
        rintro e w2 ⟨r2, rfl, hE2⟩
        have HB2 := Lib.hid (blk_ext HBK.out hE2)
        have HE2 := Lib.hid (HE.out.trans hE2)
        have d0 := blk_cell HB2.out (i := 0) rfl
        have d1 := blk_cell HB2.out (i := 1) rfl
        have d2 := blk_cell HB2.out (i := 2) rfl
        have d3 := blk_cell HB2.out (i := 3) rfl
        have z0 := blk_free HB2.out 0
        have z1 := blk_free HB2.out 1
        have z2 := blk_free HB2.out 2
        have z3 := blk_free HB2.out 3
        clear hE2 cs
        go_wp2_with fail
        go_roundg (gk - 1)
        case measure => have := HMI.out; omega
        case rel => exact ⟨2 + 1, by have := HMI.out; omega, by go_num, HE2.out.setCell (Nat.le_refl _) _, by rw [HST.out]; exact blk_set (i := 2) HB2.out _⟩
      · obtain rfl : i = 3 := hk
        have HST := Lib.hid (varR_3 L hi2)
        rw [hvr] at HST
        
        go_wp2_with fail
        refine (HAT.out wr HE.out).mono ?_
        rintro e w2 ⟨r2, rfl, hE2⟩
        have HB2 := Lib.hid (blk_ext HBK.out hE2)
        have HE2 := Lib.hid (HE.out.trans hE2)
        have d0 := blk_cell HB2.out (i := 0) rfl
        have d1 := blk_cell HB2.out (i := 1) rfl
        have d2 := blk_cell HB2.out (i := 2) rfl
        have d3 := blk_cell HB2.out (i := 3) rfl
        have z0 := blk_free HB2.out 0
        have z1 := blk_free HB2.out 1
        have z2 := blk_free HB2.out 2
        have z3 := blk_free HB2.out 3
        clear hE2 cs
        go_wp2_with fail
        go_roundg (gk - 1)
        case measure => have := HMI.out; omega
        case rel => exact ⟨3 + 1, by have := HMI.out; omega, by go_num, HE2.out.setCell (Nat.le_refl _) _, by rw [HST.out]; exact blk_set (i := 3) HB2.out _⟩
      · have q0 : ((i : Int) == 0) = false := by rw [beq_eq_false_iff_ne]; omega
        have q1 : ((i : Int) == 1) = false := by rw [beq_eq_false_iff_ne]; omega
        have q2 : ((i : Int) == 2) = false := by rw [beq_eq_false_iff_ne]; omega
        have q3 : ((i : Int) == 3) = false := by rw [beq_eq_false_iff_ne]; omega
        have HST := Lib.hid (varR_5 L hi2 hk)
        rw [hvr] at HST
        clear hk
        go_wp2_with fail
        refine (HAT.out wr HE.out).mono ?_
        rintro e w2 ⟨r2, rfl, hE2⟩
        have HB2 := Lib.hid (blk_ext HBK.out hE2)
        have HE2 := Lib.hid (HE.out.trans hE2)
        have d0 := blk_cell HB2.out (i := 0) rfl
        have d1 := blk_cell HB2.out (i := 1) rfl
        have d2 := blk_cell HB2.out (i := 2) rfl
        have d3 := blk_cell HB2.out (i := 3) rfl
        have z0 := blk_free HB2.out 0
        have z1 := blk_free HB2.out 1
        have z2 := blk_free HB2.out 2
        have z3 := blk_free HB2.out 3
        clear hE2 cs
        go_wp2_with fail
        go_roundg (gk - 1)
        case measure => have := HMI.out; omega
        case rel => exact ⟨i + 1, by have := HMI.out; omega, by go_num, HE2.out, by rw [HST.out]; exact HB2.out⟩
    · have hiI : ¬ (i : Int) < (m : Int) + 1 := by omega
      have hil : L.take (i + 1) = L := by rw [List.take_of_length_le (by have := HLL.out; have := HMI.out; omega)]
      rw [hil] at hbk
      have HBK := Lib.hid hbk
      obtain ⟨ap, cp, hpv⟩ := EachL.val HM.out.vars.each
      subst hpv
      obtain ⟨s1, s2, s3, s4⟩ := HM.out.vars.choose_spec
      clear s1 s2 s4 hil hbk hE
      have HFIN := Lib.hid fun (w3 w4 : World) (q : Value) (hE3 : Ext wr w3) (hown : w4.ownsRow B 43 4 q (t.vars.length + 1) (HM.out.vars.choose.flatten ++ vrc (varR L))) (hg : w3.grownBy w4 (Value.slice ap t.vars.length cp).ownBlock) (hb : q.ownBlock = (Value.slice ap t.vars.length cp).ownBlock ∨ q.ownBlock = some w3.heap.size) => (show LineP p B w (w4.setCell ⟨p, 0, none⟩ q) (lineR t L) from by
        rw [HLN.out]
        exact PadM.var HM.out HB.out HOL.out HE.out hE3 hown hg hb)
      obtain ⟨vr, hvr⟩ : ∃ vr, varR L = vr := ⟨_, rfl⟩
      rw [hvr] at HFIN HBK
      clear hvr
      obtain ⟨nm, lo, hh, ini⟩ := vr
      have p0 := blk_cell (blk_ext HM.out.blk HE.out) (i := 0) rfl
      have hb4 : wr.heap[w.heap.size]? = some (.cells #[.string nm, .int .i64 lo, .int .i64 hh, .int .i64 ini] 43 (0, 0)) := HBK.out
      have d0 := blk_cell hb4 (i := 0) rfl
      have d1 := blk_cell hb4 (i := 1) rfl
      have d2 := blk_cell hb4 (i := 2) rfl
      have d3 := blk_cell hb4 (i := 3) rfl
      clear hb4
      have p0b : ∀ o, (wr.alloc o).cell? ⟨p, 0, none⟩ = some (.slice ap t.vars.length cp) := fun o => cell_later (ext_al (Ext.refl wr) o) p0
      have hsz := HE.out.size
      have hBw := HB.out
      go_upto_region 18 with fail
      go_region_law (first
        | (refine step_append rfl rfl Tryz.slVars B (by rfl) (own_ext (own_ext s3.own HE.out) (Below.drew (ext_al (Ext.refl wr) _))) (by rfl) ((Row.newK wr 43 4 wr.heap.size [.string nm, .int .i64 lo, .int .i64 hh, .int .i64 ini] rfl rfl).drew) (by intro u hu; simp only [List.mem_cons, List.not_mem_nil, or_false] at hu; rcases hu with rfl | rfl | rfl | rfl <;> rfl) (by unfold maxLen; omega) (by omega) (by simp; omega) ?_
           intro v4 w4 hown4 hg4 hb4 _
           obtain ⟨a4, c4, rfl, _⟩ := hown4.row
           have hblk4 := blk_grown (blk_ext (blk_ext HM.out.blk HE.out) (Below.drew (ext_al (Ext.refl wr) _))) hg4 (fun e => by have := (s3.own.lt p e.symm).1; have := HM.out.low; omega)
           have z1 := blk_free hblk4 0
           have c9 := blk_cell hblk4 (i := 0) rfl
           have HF := Lib.hid (HFIN.out _ w4 (.slice a4 (t.vars.length + 1) c4) (Below.drew (ext_al (Ext.refl wr) _)) hown4 hg4 hb4)))
      all_goals
        go_wp2
        go_end0
        exact ⟨rfl, HF.out⟩
end Go.Proofs.YtfcaomejbcjfgaaGreatDoor

namespace Go.Proofs.YtfcaomejbcjfgaaGreatDoor
open Go Go.RowKit
set_option maxRecDepth 100000 in
set_option maxHeartbeats 8000000 in
theorem line_var1 (p B b off : Nat) (x : TW) (t : Rt) (L : List ByteArray) (vv rv pv fv : Value) (hM : PadM x p B t vv rv pv fv) (hB : B ≤ x.2.heap.size) (hold : ∀ b, b < B → x.1 b ≠ 0) (hg : Gl x.2) (hL : StrAt x.2 b off L) (hs : ∀ s ∈ L, s.size ≤ 1000000) (h0 : L.length = 1) (htp : t.vars.length ≤ 100000)
    (hw : (L.getD 0 ByteArray.empty).data.toList = [118, 97, 114]) :
    Calls Tryz.prog 19 #[.pointer (some ⟨p, 0, none⟩), .slice (some ⟨b, off, none⟩) L.length L.length] x.2 fun e w' => e = .returned (.tuple #[]) ∧ LineP p B x.2 w' (lineR t L) := by
  have HLN := Lib.hid (show lineR t L = { t with vars := t.vars ++ [varR L] } by unfold lineR; rw [hw]; rfl)
  have c0 := hL 0 (by omega)
  rw [show L[0] = L.getD 0 ByteArray.empty by rw [List.getD_eq_getElem?_getD, List.getElem?_eq_getElem (by omega)]; rfl, Nat.add_zero] at c0
  have hw2 : (L.getD 0 ByteArray.empty).toList = [118, 97, 114] := by rw [ByteArray.toList_eq]; exact hw
  have HM := Lib.hid hM
  have HOL := Lib.hid hold
  have HB := Lib.hid hB
  have HG := Lib.hid hg
  have HL := Lib.hid hL
  have HS := Lib.hid hs
  generalize L.getD 0 ByteArray.empty = s0 at *
  have HLL := Lib.hid h0
  rw [h0]
  clear hw hM hold hB hg hL hs h0
  obtain ⟨τ, w⟩ := x
  simp only at c0 HM HB HOL HG HL ⊢
  go_enter Tryz.func19, Tryz.ntmps19
  go_wp2_with fail
  have hbk := blk_new w (Obj.cells #[.string ⟨#[]⟩, .int .i64 0, .int .i64 0, .int .i64 0] 43)
  have HBK0 := Lib.hid hbk
  have HE0 := Lib.hid (ext_al (Ext.refl w) (Obj.cells #[.string ⟨#[]⟩, .int .i64 0, .int .i64 0, .int .i64 0] 43))
  have HV0 := Lib.hid (show vrc (varR (L.take (0 + 1))) = [.string ⟨#[]⟩, .int .i64 0, .int .i64 0, .int .i64 0] by simp [varR, wordN, List.getElem?_take, List.getD_eq_getElem?_getD, vrc]; rfl)
  generalize w.alloc (Obj.cells #[.string ⟨#[]⟩, .int .i64 0, .int .i64 0, .int .i64 0] 43) = W1 at *
  clear hbk c0
  go_loopg [25] 0 (fun q z wr => ∃ i : Nat, q + i = 0 ∧ z = .int .i64 (i : Int) ∧ Ext w wr ∧ wr.heap[w.heap.size]? = some (.cells (vrc (varR (L.take (i + 1)))).toArray 43 (0, 0)))
  case atStart => exact ⟨0, by omega, by go_num, HE0.out, by rw [HV0.out]; exact HBK0.out⟩
  case round =>
    obtain ⟨i, hmi, rfl, hE, hbk⟩ := hrel
    have HMI := Lib.hid hmi
    have HE := Lib.hid hE
    clear hmi
    obtain rfl : i = 0 := by have := HMI.out; omega
    have hil : L.take (0 + 1) = L := by rw [List.take_of_length_le (by have := HLL.out; have := HMI.out; omega)]
    rw [hil] at hbk
    have HBK := Lib.hid hbk
    obtain ⟨ap, cp, hpv⟩ := EachL.val HM.out.vars.each
    subst hpv
    obtain ⟨s1, s2, s3, s4⟩ := HM.out.vars.choose_spec
    clear s1 s2 s4 hil hbk hE
    have HFIN := Lib.hid fun (w3 w4 : World) (q : Value) (hE3 : Ext wr w3) (hown : w4.ownsRow B 43 4 q (t.vars.length + 1) (HM.out.vars.choose.flatten ++ vrc (varR L))) (hg : w3.grownBy w4 (Value.slice ap t.vars.length cp).ownBlock) (hb : q.ownBlock = (Value.slice ap t.vars.length cp).ownBlock ∨ q.ownBlock = some w3.heap.size) => (show LineP p B w (w4.setCell ⟨p, 0, none⟩ q) (lineR t L) from by
      rw [HLN.out]
      exact PadM.var HM.out HB.out HOL.out HE.out hE3 hown hg hb)
    obtain ⟨vr, hvr⟩ : ∃ vr, varR L = vr := ⟨_, rfl⟩
    rw [hvr] at HFIN HBK
    clear hvr
    obtain ⟨nm, lo, hh, ini⟩ := vr
    have p0 := blk_cell (blk_ext HM.out.blk HE.out) (i := 0) rfl
    have hb4 : wr.heap[w.heap.size]? = some (.cells #[.string nm, .int .i64 lo, .int .i64 hh, .int .i64 ini] 43 (0, 0)) := HBK.out
    have d0 := blk_cell hb4 (i := 0) rfl
    have d1 := blk_cell hb4 (i := 1) rfl
    have d2 := blk_cell hb4 (i := 2) rfl
    have d3 := blk_cell hb4 (i := 3) rfl
    clear hb4
    have p0b : ∀ o, (wr.alloc o).cell? ⟨p, 0, none⟩ = some (.slice ap t.vars.length cp) := fun o => cell_later (ext_al (Ext.refl wr) o) p0
    have hsz := HE.out.size
    have hBw := HB.out
    go_upto_region 18 with fail
    go_region_law (first
      | (refine step_append rfl rfl Tryz.slVars B (by rfl) (own_ext (own_ext s3.own HE.out) (Below.drew (ext_al (Ext.refl wr) _))) (by rfl) ((Row.newK wr 43 4 wr.heap.size [.string nm, .int .i64 lo, .int .i64 hh, .int .i64 ini] rfl rfl).drew) (by intro u hu; simp only [List.mem_cons, List.not_mem_nil, or_false] at hu; rcases hu with rfl | rfl | rfl | rfl <;> rfl) (by unfold maxLen; omega) (by omega) (by simp; omega) ?_
         intro v4 w4 hown4 hg4 hb4 _
         obtain ⟨a4, c4, rfl, _⟩ := hown4.row
         have hblk4 := blk_grown (blk_ext (blk_ext HM.out.blk HE.out) (Below.drew (ext_al (Ext.refl wr) _))) hg4 (fun e => by have := (s3.own.lt p e.symm).1; have := HM.out.low; omega)
         have z1 := blk_free hblk4 0
         have c9 := blk_cell hblk4 (i := 0) rfl
         have HF := Lib.hid (HFIN.out _ w4 (.slice a4 (t.vars.length + 1) c4) (Below.drew (ext_al (Ext.refl wr) _)) hown4 hg4 hb4)))
    all_goals
      go_wp2
      go_end0
      exact ⟨rfl, HF.out⟩
end Go.Proofs.YtfcaomejbcjfgaaGreatDoor

namespace Go.Proofs.YtfcaomejbcjfgaaGreatDoor
open Go Go.RowKit
set_option maxRecDepth 100000 in
set_option maxHeartbeats 16000000 in
theorem line_set (p B b off : Nat) (x : TW) (t : Rt) (L : List ByteArray) (vv rv pv fv : Value) (hM : PadM x p B t vv rv pv fv) (hB : B ≤ x.2.heap.size) (hold : ∀ b, b < B → x.1 b ≠ 0) (hg : Gl x.2) (hL : StrAt x.2 b off L) (hs : ∀ s ∈ L, s.size ≤ 1000000) (hn : L.length ≤ 1000000) (h0 : 1 < L.length) (hsm : SmallT 100000 t) (hne : t.rules ≠ [])
    (hw : (L.getD 0 ByteArray.empty).data.toList = [115, 101, 116]) :
    Calls Tryz.prog 19 #[.pointer (some ⟨p, 0, none⟩), .slice (some ⟨b, off, none⟩) L.length L.length] x.2 fun e w' => e = .returned (.tuple #[]) ∧ LineP p B x.2 w' (lineR t L) := by
  obtain ⟨rs, r, hr⟩ : ∃ rs r, t.rules = rs ++ [r] := ⟨_, _, (List.dropLast_concat_getLast hne).symm⟩
  have HLN := Lib.hid (show lineR t L = { t with rules := rs ++ [{ r with sets := r.sets ++ [(varAt t.vars (L.getD 1 ByteArray.empty), termR t.vars (L.drop 2))] }] } by
    unfold lineR; rw [hw, if_neg (by decide), if_neg (by decide), if_pos rfl, if_pos h0, hr, lastM_snoc])
  have hrl := hsm.rules
  rw [hr] at hrl
  simp only [List.length_append, List.length_cons, List.length_nil, Nat.zero_add] at hrl
  have hsl := hsm.sets r (by rw [hr]; simp)
  have c0 := hL 0 (by omega)
  have c1 := hL 1 (by omega)
  rw [show L[0] = L.getD 0 ByteArray.empty by rw [List.getD_eq_getElem?_getD, List.getElem?_eq_getElem (by omega)]; rfl, Nat.add_zero] at c0
  rw [show L[1] = L.getD 1 ByteArray.empty by rw [List.getD_eq_getElem?_getD, List.getElem?_eq_getElem (by omega)]; rfl] at c1
  have hw2 : (L.getD 0 ByteArray.empty).toList = [115, 101, 116] := by rw [ByteArray.toList_eq]; exact hw
  have HTM := Lib.hid (show ∀ o wx, (L.length - 2 = 0 ∨ o = off + 2) → Ext x.2 wx → Calls Tryz.prog 34 #[.pointer (some ⟨p, 0, none⟩), .slice (some ⟨b, o, none⟩) (L.length - 2) (L.length - 2)] wx fun e w' => ∃ a k, e = .returned (.slice a (L.length - 2) k) ∧ w'.ownsRow wx.heap.size 79 2 (.slice a (L.length - 2) k) (L.length - 2) ((termR t.vars (L.drop 2)).flatMap opc) ∧ Ext wx w' from fun o wx ho hx => by
    have hd : StrAt wx b o (L.drop 2) := by
      rcases ho with ho | rfl
      · intro i hi; simp at hi; omega
      · exact (hL.drop 2).ext hx
    have := term_any p vv t.vars (L.drop 2) b o (L.length - 2) wx (blk_cell (blk_ext hM.blk hx) (i := 0) rfl) ((show IsVars x.2 vv t.vars from hM.vars.each).ext hx) (hg.ext hx) hd (fun s h => hs s (List.mem_of_mem_drop h)) (by simp; omega)
    rw [List.length_drop] at this
    exact this)
  have HVA := Lib.hid fun wx (hx : Ext x.2 wx) => variable_any p vv t.vars (L.getD 1 ByteArray.empty) wx (blk_cell (blk_ext hM.blk hx) (i := 0) rfl) ((show IsVars x.2 vv t.vars from hM.vars.each).ext hx)
  have HM := Lib.hid hM
  have HOL := Lib.hid hold
  have HB := Lib.hid hB
  have HTL := Lib.hid (show L.length - 2 = (termR t.vars (L.drop 2)).length by simp [termR])
  generalize L.getD 0 ByteArray.empty = s0 at *
  generalize L.getD 1 ByteArray.empty = s1 at *
  generalize varAt t.vars s1 = va at *
  obtain ⟨n, hnn⟩ : ∃ n, L.length = n := ⟨_, rfl⟩
  rw [hnn] at HTM HTL hn h0 ⊢
  obtain ⟨m, rfl⟩ : ∃ m, n = m + 2 := ⟨n - 2, by omega⟩
  simp only [Nat.add_sub_cancel] at HTM HTL
  clear hw hM hold hB hg hL hs hnn hne hsm h0
  obtain ⟨τ, w⟩ := x
  simp only at c0 c1 HTM HVA HM HB HOL ⊢
  have c2 := blk_cell HM.out.blk (i := 1) rfl
  have HR := Lib.hid hr
  clear hr
  obtain ⟨H, cap, sa, cs, dss, rfl, hBH, ⟨cur, hcur, hcc⟩, hos, hob, hfin⟩ := PadM.last HM.out HB.out HR.out
  rw [Nat.mul_comm 2 rs.length] at hcc
  have cS := blk_cell hcur hcc
  have HFIN := Lib.hid fun (w2 w3 w4 : World) (v q : Value) (hE : Ext w w2) (hen : EntB B 0 (tagAt τ w.heap.size 0, w2) fun y => Ops y v (termR t.vars (L.drop 2))) (hE3 : Ext w2 w3)
    (hown : w4.ownsRow B 49 2 q (r.sets.length + 1) (dss ++ [.int .i64 va, v])) (hgr : w3.grownBy w4 (Value.slice sa r.sets.length cs).ownBlock) (hb : q.ownBlock = (Value.slice sa r.sets.length cs).ownBlock ∨ q.ownBlock = some w3.heap.size) =>
      (show LineP p B w (w4.setCell ⟨H, rs.length * 2 + 1, none⟩ q) (lineR t L) from by
        rw [HLN.out, Nat.mul_comm rs.length 2]
        exact hfin w2 w3 w4 v q va _ hE hen hE3 hown hgr hb)
  clear hfin
  have HOB := Lib.hid hob
  clear hob
  generalize r.sets.length = ns at *
  generalize rs.length = k at *
  have HCU := Lib.hid hcur
  clear hcur
  go_enter Tryz.func19, Tryz.ntmps19
  rcases m with _ | m
  · have HT0 := Lib.hid fun wx (hx : Ext w wx) => (show Calls Tryz.prog 34 #[.pointer (some ⟨p, 0, none⟩), .slice (some ⟨b, off, none⟩) 0 0] wx fun e w' => ∃ a k, e = .returned (.slice a 0 k) ∧ w'.ownsRow wx.heap.size 79 2 (.slice a 0 k) 0 ((termR t.vars (L.drop 2)).flatMap opc) ∧ Ext wx w' from HTM.out off wx (.inl rfl) hx)
    clear HTM
    go_upto_region 23 with fail
    go_quiet (fail)
    go_upto_region 24 with fail
    generalize hw0 : w.drewN nq = w0 at *
    have EX0 : Ext w w0 := by rw [← hw0]; exact below_drewN (Ext.refl w) nq
    replace c0 := cell_later EX0 c0
    replace c1 := cell_later EX0 c1
    replace cS := cell_later EX0 cS
    clear hw0 c2
    have EX := Below.drew EX0
    go_region_law (first
      | (refine step_append rfl rfl Tryz.slSets B (by rfl) (own_ext hos (ext_al EX _)) (by rfl) (Row.newK _ _ _ _ [_, _] rfl rfl) (by intro u hu; simp only [List.mem_cons, List.not_mem_nil, or_false] at hu; rcases hu with rfl | rfl <;> rfl) (by unfold maxLen; omega) (by omega) (by have := HB.out; have := EX.size; simp; omega) ?_
         intro v4 w4 hown4 hg4 hb4 _
         obtain ⟨a4, c4, rfl, _⟩ := hown4.row
         have hblk4 := blk_grown (blk_ext HCU.out (ext_al EX _)) hg4 (fun e => HOB.out H e.symm rfl)
         have z1 := blk_free hblk4 (k * 2 + 1)
         have c9 := blk_cell hblk4 hcc
         have HF := Lib.hid (HFIN.out w2 _ w4 _ (.slice a4 (ns + 1) c4) hE2 (ent_made (x := (τ, w)) HB.out hE2 HOL.out HTL.out HO2) (ext_al HC _) hown4 hg4 hb4))
      | (go_simp
         go_at_call 34
         refine (HT0.out _ EX).mono ?_
         rintro e w2 ⟨a, kk, rfl, ho, hE⟩
         have hE2 := Ext.trans EX hE
         have HO2 := own_down ho EX.size
         have HC := Ext.refl w2
         replace EX := hE2
         replace cS := cell_later hE cS
         replace c1 := cell_later hE c1
         have cSb : ∀ o, (w2.alloc o).cell? ⟨H, k * 2 + 1, none⟩ = some (.slice sa ns cs) := fun o => cell_later (ext_al (Ext.refl _) o) cS)
      | (go_simp
         go_at_call 35
         refine (HVA.out _ EX).mono ?_
         rintro e wv ⟨rfl, hE⟩
         replace EX := Ext.trans EX hE
         try (replace HC := Ext.trans HC hE)
         replace cS := cell_later hE cS
         replace c1 := cell_later hE c1
         have cSb : ∀ o, (wv.alloc o).cell? ⟨H, k * 2 + 1, none⟩ = some (.slice sa ns cs) := fun o => cell_later (ext_al (Ext.refl _) o) cS))
    all_goals
      go_wp2
      go_end0
      exact ⟨rfl, HF.out⟩
  · have HT0 := Lib.hid fun wx (hx : Ext w wx) => (show Calls Tryz.prog 34 #[.pointer (some ⟨p, 0, none⟩), .slice (some ⟨b, (off + 2), none⟩) (m + 1) (m + 1)] wx fun e w' => ∃ a k, e = .returned (.slice a (m + 1) k) ∧ w'.ownsRow wx.heap.size 79 2 (.slice a (m + 1) k) (m + 1) ((termR t.vars (L.drop 2)).flatMap opc) ∧ Ext wx w' from HTM.out (off + 2) wx (.inr rfl) hx)
    clear HTM
    have y1 : (2 : Int) ≤ (m : Int) + 1 + 2 := by omega
    go_upto_region 23 with fail
    go_quiet (fail)
    go_upto_region 24 with fail
    generalize hw0 : w.drewN nq = w0 at *
    have EX0 : Ext w w0 := by rw [← hw0]; exact below_drewN (Ext.refl w) nq
    replace c0 := cell_later EX0 c0
    replace c1 := cell_later EX0 c1
    replace cS := cell_later EX0 cS
    clear hw0 c2
    have EX := Below.drew EX0
    go_region_law (first
      | (refine step_append rfl rfl Tryz.slSets B (by rfl) (own_ext hos (ext_al EX _)) (by rfl) (Row.newK _ _ _ _ [_, _] rfl rfl) (by intro u hu; simp only [List.mem_cons, List.not_mem_nil, or_false] at hu; rcases hu with rfl | rfl <;> rfl) (by unfold maxLen; omega) (by omega) (by have := HB.out; have := EX.size; simp; omega) ?_
         intro v4 w4 hown4 hg4 hb4 _
         obtain ⟨a4, c4, rfl, _⟩ := hown4.row
         have hblk4 := blk_grown (blk_ext HCU.out (ext_al EX _)) hg4 (fun e => HOB.out H e.symm rfl)
         have z1 := blk_free hblk4 (k * 2 + 1)
         have c9 := blk_cell hblk4 hcc
         have HF := Lib.hid (HFIN.out w2 _ w4 _ (.slice a4 (ns + 1) c4) hE2 (ent_made (x := (τ, w)) HB.out hE2 HOL.out HTL.out HO2) (ext_al HC _) hown4 hg4 hb4))
      | (go_simp
         go_at_call 34
         refine (HT0.out _ EX).mono ?_
         rintro e w2 ⟨a, kk, rfl, ho, hE⟩
         have hE2 := Ext.trans EX hE
         have HO2 := own_down ho EX.size
         have HC := Ext.refl w2
         replace EX := hE2
         replace cS := cell_later hE cS
         replace c1 := cell_later hE c1
         have cSb : ∀ o, (w2.alloc o).cell? ⟨H, k * 2 + 1, none⟩ = some (.slice sa ns cs) := fun o => cell_later (ext_al (Ext.refl _) o) cS)
      | (go_simp
         go_at_call 35
         refine (HVA.out _ EX).mono ?_
         rintro e wv ⟨rfl, hE⟩
         replace EX := Ext.trans EX hE
         try (replace HC := Ext.trans HC hE)
         replace cS := cell_later hE cS
         replace c1 := cell_later hE c1
         have cSb : ∀ o, (wv.alloc o).cell? ⟨H, k * 2 + 1, none⟩ = some (.slice sa ns cs) := fun o => cell_later (ext_al (Ext.refl _) o) cS))
    all_goals
      go_wp2
      go_end0
      exact ⟨rfl, HF.out⟩
end Go.Proofs.YtfcaomejbcjfgaaGreatDoor

namespace Go.Proofs.YtfcaomejbcjfgaaGreatDoor
open Go Go.RowKit
theorem line_any (p B b off : Nat) (x : TW) (t : Rt) (L : List ByteArray) (vv rv pv fv : Value) (hM : PadM x p B t vv rv pv fv) (hB : B ≤ x.2.heap.size) (hold : ∀ b, b < B → x.1 b ≠ 0) (hg : Gl x.2) (hL : StrAt x.2 b off L) (hs : ∀ s ∈ L, s.size ≤ 1000000) (hn : L.length ≤ 1000000) (h0 : 0 < L.length) (hsm : SmallT 100000 t) :
    Calls Tryz.prog 19 #[.pointer (some ⟨p, 0, none⟩), .slice (some ⟨b, off, none⟩) L.length L.length] x.2 fun e w' => e = .returned (.tuple #[]) ∧ LineP p B x.2 w' (lineR t L) := by
  by_cases w1 : (L.getD 0 ByteArray.empty).data.toList = [118, 97, 114]
  · by_cases h1 : L.length = 1
    · exact line_var1 p B b off x t L vv rv pv fv hM hB hold hg hL hs h1 hsm.vars w1
    · exact line_var p B b off x t L vv rv pv fv hM hB hold hg hL hs hn (by omega) hsm.vars w1
  by_cases w2 : (L.getD 0 ByteArray.empty).data.toList = [114, 117, 108, 101]
  · exact line_rule p B b off x t L vv rv pv fv hM hB hold hg hL hs hn h0 hsm.rules w2
  by_cases w3 : (L.getD 0 ByteArray.empty).data.toList = [115, 101, 116]
  · by_cases h1 : L.length = 1
    · exact line_set0 p B b off x t L vv rv pv fv hM hold hL hn h0 w3 (.inl h1)
    · by_cases h2 : t.rules = []
      · exact line_set0 p B b off x t L vv rv pv fv hM hold hL hn h0 w3 (.inr h2)
      · exact line_set p B b off x t L vv rv pv fv hM hB hold hg hL hs hn (by omega) hsm h2 w3
  by_cases w4 : (L.getD 0 ByteArray.empty).data.toList = [112, 114, 111, 112]
  · exact line_prop p B b off x t L vv rv pv fv hM hB hold hg hL hs hn h0 hsm.props w4
  by_cases w5 : (L.getD 0 ByteArray.empty).data.toList = [99, 104, 101, 99, 107]
  · exact line_check p B b off x t L vv rv pv fv hM hB hold hg hL hs hn h0 w5
  exact line_none p B b off x t L vv rv pv fv hM hold hL hn h0 w1 w2 w3 w4 w5
end Go.Proofs.YtfcaomejbcjfgaaGreatDoor
