/- ShRf: what is needed of it. No condition. -/
import Derived.Test.YtfcaomejbcjfgaaGreatDoorKxShRe
import Derived.Test.YtfcaomejbcjfgaaGreatDoorKx19
import Derived.Laws.ResultCell
namespace Go.Proofs.YtfcaomejbcjfgaaGreatDoor
open Go Go.RowKit Go.Shelf
attribute [local go_sem] Oper.semAt_some
def zeroT : Value := .agg #[.slice none 0 0, .slice none 0 0, .slice none 0 0, .slice none 0 0]
def ReadE (s : List UInt8) (w' : World) (e : Ending) : Prop :=
  (10000 < s.length ∧ e = .returned (.tuple #[zeroT, .int .i64 1])) ∨
  (s.length ≤ 10000 ∧ ¬ (TaskG (rdL s) ∧ showL (rdL s) = s) ∧ e = .returned (.tuple #[zeroT, .int .i64 3])) ∨
  (s.length ≤ 10000 ∧ TaskG (rdL s) ∧ showL (rdL s) = s ∧ ∃ vv rv pv fv, IsRt w' vv rv pv fv (rdL s) ∧ e = .returned (.tuple #[.agg #[vv, rv, pv, fv], .int .i64 0]))
theorem trim_line (n l : Nat) (x : List UInt8) (hx : x.length ≤ 10000) (wx : World) : CallsIn (Fence.wide.inRound l) n Tryz.prog 21 #[.string ⟨x.toArray⟩, .string ⟨#[10]⟩] wx fun e w' => e = .returned (.string (trimB ⟨x.toArray⟩)) ∧ w' = wx :=
  CallsIn.inRound l (callsIn_wide.2 (Tryz.strings_TrimSuffix ⟨x.toArray⟩ ⟨#[10]⟩ wx (by show x.toArray.size ≤ _; simp; omega)))
theorem split_line (n l : Nat) (x : List UInt8) (hx : x.length ≤ 10000) (wx : World) (hg : Gl wx) : CallsIn (Fence.wide.inRound l) n Tryz.prog 20 #[.string (trimB ⟨x.toArray⟩), .string ⟨#[32]⟩] wx fun e w' => e = .returned (.slice (some ⟨wx.heap.size, 0, none⟩) (wordsB ⟨x.toArray⟩).length (wordsB ⟨x.toArray⟩).length) ∧ w' = wx.alloc (.cells ((wordsB ⟨x.toArray⟩).map Value.string).toArray 9) := by
  obtain ⟨m, hm⟩ := hg.max
  have hsz : (trimB ⟨x.toArray⟩).size ≤ 10000 := by
    have := trimB_size ⟨x.toArray⟩
    have h2 : (⟨x.toArray⟩ : ByteArray).size = x.length := by show x.toArray.size = _; simp
    omega
  rw [wordsB_len]
  exact CallsIn.inRound l (callsIn_wide.2 (Tryz.strings_Split (trimB ⟨x.toArray⟩) ⟨#[32]⟩ m wx (by omega) hm (by decide)))
theorem line_line (n l : Nat) (x : List UInt8) (hx : x.length ≤ 10000) (w : World) (hg : Gl w) (o : Obj) (pre : List (List UInt8)) (hp : pre.length ≤ 10000) (W : World) (hI : RdI w o pre W) (wx : World) (hE : Ext W wx) (b : Nat)
    (hb : wx.heap[b]? = some (.cells ((wordsB ⟨x.toArray⟩).map Value.string).toArray 9 (0, 0))) :
    CallsIn (Fence.wide.inRound l) n Tryz.prog 19 #[.pointer (some ⟨w.heap.size + 1, 0, none⟩), .slice (some ⟨b, 0, none⟩) (wordsB ⟨x.toArray⟩).length (wordsB ⟨x.toArray⟩).length] wx fun e w' => e = .returned (.tuple #[]) ∧ RdI w o (pre ++ [x]) w' ∧ w'.heap[w.heap.size + 3]? = W.heap[w.heap.size + 3]? := by
  obtain ⟨τ, vv, rv, pv, fv, h1, h2⟩ := hI.pad
  have hs := hI.sz
  have hxs : (⟨x.toArray⟩ : ByteArray).size = x.length := by show x.toArray.size = _; simp
  have hL : StrAt wx b 0 (wordsB ⟨x.toArray⟩) := fun i hi => by
    rw [Nat.zero_add]
    exact blk_cell hb (by simp [hi])
  have hsm : SmallT 100000 (rdAll noRt pre) := ⟨by have := hI.small.vars; omega, by have := hI.small.rules; omega, by have := hI.small.props; omega, fun r hr => by have := hI.small.sets r hr; omega⟩
  refine CallsIn.inRound l (callsIn_wide.2 ((line_any (w.heap.size + 1) (w.heap.size + 6) b 0 (tagAt τ W.heap.size 0, wx) _ (wordsB ⟨x.toArray⟩) vv rv pv fv (h2.call hE) (Nat.le_trans hs hE.size) (fun k hk => by show tagAt τ W.heap.size 0 k ≠ 0; rw [tagAt_lt (by omega)]; exact h1 k hk) ((hg.ext hI.low).ext hE) hL (fun y hy => by have := wordsB_size _ y hy; omega) (by have := wordsB_le (⟨x.toArray⟩ : ByteArray); omega) (by rw [wordsB_len]; omega) hsm).mono ?_))
  rintro e w' ⟨rfl, hLP⟩
  obtain ⟨a, c⟩ := hI.line x hE hLP
  exact ⟨rfl, a, c⟩
theorem PadM.st {τ : Nat → Nat} {w : World} {p B : Nat} {t : Rt} {vv rv pv fv : Value} (h : PadM (τ, w) p B t vv rv pv fv) {q : Nat} (i : Nat) (h1 : q < B) (h2 : q ≠ p) (v : Value) : PadM (τ, w.setCell ⟨q, i, none⟩ v) p B t vv rv pv fv :=
  h.keep (Nw.store τ w (p := ⟨q, i, none⟩) h1 v) (Below.heap_setCell _ _ _ _ (Ne.symm h2))
theorem read_leaves {R : Ending → World → Prop} {tmps : Array Value} {w3 : World} {b D : Nat} {x0 x1 x2 x3 : Value} {c : Int} (hb : w3.heap[b]? = some (.cells #[x0, x1, x2, x3] 34 (0, 0))) (hD : w3.heap[D]? = some (.deferred (some []))) (hne : b ≠ D)
    (h2 : tmps.getD 2 undef = .pointer (some ⟨b, 0, none⟩)) (h3 : tmps.getD 3 undef = .int .i64 c) (hR : R (.returned (.tuple #[.agg #[x0, x1, x2, x3], .int .i64 c])) (w3.putObj D (.deferred none))) :
    bodyPostM Fence.wide 3 Tryz.prog Tryz.f6 R .ret { tmps := tmps, defers := [{ target := Target.collected D, args := #[] }] } w3 := by
  have hb2 : (w3.putObj D (.deferred none)).heap[b]? = some (.cells #[x0, x1, x2, x3] 34 (0, 0)) := (World.putObj_heap_other hne).trans hb
  refine ⟨by simp, .inl ⟨_, _, rfl, run_takeDeferred hD, _, ?_, hR⟩⟩
  have c0 := blk_cell hb2 (i := 0) rfl
  have c1 := blk_cell hb2 (i := 1) rfl
  have c2 := blk_cell hb2 (i := 2) rfl
  have c3 := blk_cell hb2 (i := 3) rfl
  rw [results_cell_tmp rfl, h2, h3]
  simp [go_sem, c0, c1, c2, c3]
theorem blk_set4 {w : World} {b : Nat} {y0 y1 y2 y3 : Value} {t : TypeId} (h : w.heap[b]? = some (.cells #[y0, y1, y2, y3] t (0, 0))) (x0 x1 x2 x3 : Value) :
    ((((w.setCell ⟨b, 0, none⟩ x0).setCell ⟨b, 1, none⟩ x1).setCell ⟨b, 2, none⟩ x2).setCell ⟨b, 3, none⟩ x3).heap[b]? = some (.cells #[x0, x1, x2, x3] t (0, 0)) :=
  blk_set (i := 3) (blk_set (i := 2) (blk_set (i := 1) (blk_set (i := 0) h x0) x1) x2) x3
theorem far_set4 {w : World} {b k : Nat} (h : k ≠ b) (x0 x1 x2 x3 : Value) :
    ((((w.setCell ⟨b, 0, none⟩ x0).setCell ⟨b, 1, none⟩ x1).setCell ⟨b, 2, none⟩ x2).setCell ⟨b, 3, none⟩ x3).heap[k]? = w.heap[k]? := by
  rw [Below.heap_setCell _ _ _ _ h, Below.heap_setCell _ _ _ _ h, Below.heap_setCell _ _ _ _ h, Below.heap_setCell _ _ _ _ h]
theorem ext_set4 {w w2 : World} {b : Nat} (hE : Ext w w2) (h : w.heap.size ≤ b) (x0 x1 x2 x3 : Value) :
    Ext w ((((w2.setCell ⟨b, 0, none⟩ x0).setCell ⟨b, 1, none⟩ x1).setCell ⟨b, 2, none⟩ x2).setCell ⟨b, 3, none⟩ x3) :=
  ext_st (p := ⟨b, 3, none⟩) (ext_st (p := ⟨b, 2, none⟩) (ext_st (p := ⟨b, 1, none⟩) (ext_st (p := ⟨b, 0, none⟩) hE h _) h _) h _) h _
set_option maxRecDepth 100000 in
set_option maxHeartbeats 16000000 in
theorem read_any (s : ByteArray) (w : World) (hg : Gl w) :
    Calls Tryz.prog 6 #[.string s] w fun e w' => Ext w w' ∧ ReadE s.data.toList w' e := by
  refine (callsIn_wide (n := 3)).1 ?_
  refine callsIn_of_wp_marks Tryz.func6 rfl trivial ?_ rfl
  simp only [Tryz.ntmps6, List.size_toArray, List.length_cons, List.length_nil, Nat.reduceAdd, Nat.reduceSub, Array.replicate_succ, Array.replicate_zero, List.push_toArray, List.append_toArray, List.nil_append, List.cons_append]
  by_cases hs : 10000 < s.size
  · have HBIG := Lib.hid fun wx => (show ReadE s.data.toList wx (.returned (.tuple #[zeroT, .int .i64 1])) from .inl ⟨by rw [← Lib.size_eq]; exact hs, rfl⟩)
    have h1 : (10000 : Int) < (s.size : Int) := by omega
    clear hg
    gi_wp2_with fail
    refine ⟨_, ?_, ext_al (Ext.refl _) _, HBIG.out _⟩
    have hb2 := blk_new w (Obj.cells #[.slice none 0 0, .slice none 0 0, .slice none 0 0, .slice none 0 0] 34)
    have c0 := blk_cell hb2 (i := 0) rfl
    have c1 := blk_cell hb2 (i := 1) rfl
    have c2 := blk_cell hb2 (i := 2) rfl
    have c3 := blk_cell hb2 (i := 3) rfl
    rw [results_cell_tmp rfl]
    simp [go_sem, c0, c1, c2, c3, zeroT]
  · have h1 : ¬ (10000 : Int) < (s.size : Int) := by omega
    have HS := Lib.hid (show s.data.toList.length ≤ 10000 by rw [← Lib.size_eq]; omega)
    have HG := Lib.hid hg
    clear hg
    gi_wp2_with (refine ⟨trivial, ?_⟩; gi_at_call 18; refine (callsIn_wide.2 (lines_any _ _)).mono ?_; rintro e w' ⟨rfl, rfl⟩)
    simp only [Nat.add_assoc, Nat.reduceAdd]
    clear h1 hs
    refine wpIn_readLines (w := w) (by omega) rfl rfl s.data.toList HS.out (by simp) (ext_al (ext_al (ext_al (ext_al (Ext.refl _) _) _) _) _) ?r0 ?r1 ?r2 ?r3
      (fun x => { tmps := #[.string s, undef, .pointer (some ⟨w.heap.size, 0, none⟩), .int .i64 0, .pointer (some ⟨w.heap.size + 2, 0, none⟩), .string ⟨x.toArray⟩, undef, undef, .string s, .int .i64 (s.size : Int), .bool false, undef, .agg #[.slice none 0 0, .slice none 0 0, .slice none 0 0, .slice none 0 0], .pointer (some ⟨w.heap.size + 1, 0, none⟩), .string s, .func (.func 31) #[] #[.pointer (some ⟨w.heap.size + 3, 0, none⟩)], .string ⟨x.toArray⟩, undef, undef, undef, undef, undef, undef, undef, undef, undef, undef, undef, undef, undef, undef, undef, undef, undef, undef, undef, undef, undef, undef, undef, undef, undef], defers := [] }) ?assign ?body ?done
    case r0 => exact (Below.heap_alloc _ _ _ (by simp; omega)).trans ((Below.heap_alloc _ _ _ (by simp; omega)).trans ((Below.heap_alloc _ _ _ (by simp)).trans (blk_new w _)))
    case r1 =>
      have h := blk_new (w.alloc (Obj.cells #[.slice none 0 0, .slice none 0 0, .slice none 0 0, .slice none 0 0] 34)) (Obj.cells #[.slice none 0 0, .slice none 0 0, .slice none 0 0, .slice none 0 0] 70)
      rw [World.size_alloc] at h
      exact (Below.heap_alloc _ _ _ (by simp)).trans ((Below.heap_alloc _ _ _ (by simp)).trans h)
    case r2 =>
      have h := blk_new ((w.alloc (Obj.cells #[.slice none 0 0, .slice none 0 0, .slice none 0 0, .slice none 0 0] 34)).alloc (Obj.cells #[.slice none 0 0, .slice none 0 0, .slice none 0 0, .slice none 0 0] 70)) (.cells #[.pointer (some ⟨w.heap.size + 1, 0, none⟩)] 68)
      rw [World.size_alloc, World.size_alloc] at h
      exact (Below.heap_alloc _ _ _ (by simp)).trans h
    case r3 =>
      have h := blk_new (((w.alloc (Obj.cells #[.slice none 0 0, .slice none 0 0, .slice none 0 0, .slice none 0 0] 34)).alloc (Obj.cells #[.slice none 0 0, .slice none 0 0, .slice none 0 0, .slice none 0 0] 70)).alloc (.cells #[.pointer (some ⟨w.heap.size + 1, 0, none⟩)] 68)) (.cells #[.string s] 9)
      rw [World.size_alloc, World.size_alloc, World.size_alloc] at h
      rw [Lib.mk_data]
      exact h
    case assign =>
      intro x W K hK
      gi_wp2
      exact hK
    case body =>
      intro o pre x W hI hpl hxl
      have HTS := Lib.hid fun wx => trim_line 0 (w.heap.size + 5) x hxl wx
      have HSP := Lib.hid fun wx (hx : Ext W wx) => split_line 0 (w.heap.size + 5) x hxl wx ((HG.out.ext hI.low).ext hx)
      have HLI := Lib.hid fun wx (hx : Ext W wx) b hb => line_line 0 (w.heap.size + 5) x hxl w HG.out o pre hpl W hI wx hx b hb
      have cB : W.cell? ⟨w.heap.size + 2, 0, none⟩ = some (.pointer (some ⟨w.heap.size + 1, 0, none⟩)) := blk_cell hI.box rfl
      have cBd : W.drew.cell? ⟨w.heap.size + 2, 0, none⟩ = some (.pointer (some ⟨w.heap.size + 1, 0, none⟩)) := cB
      have cBa : ∀ ox, (W.drew.alloc ox).cell? ⟨w.heap.size + 2, 0, none⟩ = some (.pointer (some ⟨w.heap.size + 1, 0, none⟩)) := fun ox => cell_later (ext_al (Ext.refl _) ox) cBd
      have hmx : Tryz.prog.follows .mixedOrders = true := by kernel_rfl
      clear hI hpl hxl
      generalize trimB ⟨x.toArray⟩ = xt at *
      generalize wordsB ⟨x.toArray⟩ = L at *
      gi_wp2_with fail
      gi_region_with_o (first
        | (refine ⟨trivial, ?_⟩; gi_at_call 21; refine (HTS.out _).mono ?_; rintro e w' ⟨rfl, rfl⟩)
        | (refine ⟨trivial, ?_⟩; gi_at_call 20; refine (HSP.out _ (Below.drew (Ext.refl _))).mono ?_; rintro e w2 ⟨rfl, hw2⟩; have hE2 : Ext W w2 := (by rw [hw2]; exact ext_al (Below.drew (Ext.refl _)) _); have hb2 : w2.heap[W.drew.heap.size]? = some (.cells (L.map Value.string).toArray 9 (0, 0)) := (by rw [hw2]; exact blk_new _ _); have cB2 := cell_later hE2 cB; clear hw2)
        | (refine ⟨trivial, ?_⟩; gi_at_call 19; refine (HLI.out _ hE2 _ hb2).mono ?_; rintro e w' ⟨rfl, hI2, hbk⟩))
      all_goals gi_wp2
      all_goals exact ⟨hI2, hbk⟩
    case done =>
      intro o W hI
      obtain ⟨τ, vv, rv, pv, fv, h1, h2⟩ := hI.pad
      have hrt := h2.rt
      rw [show rdAll noRt (linesL s.data.toList) = rdL s.data.toList from rfl] at hrt
      obtain ⟨av, nv, cv, rfl⟩ : ∃ a n c, vv = .slice a n c := by obtain ⟨a, c, h⟩ := EachL.val hrt.vars; exact ⟨_, _, _, h⟩
      obtain ⟨ar, nr, cr, rfl⟩ : ∃ a n c, rv = .slice a n c := by obtain ⟨a, c, h⟩ := EachL.val hrt.rules; exact ⟨_, _, _, h⟩
      obtain ⟨ap, np, cp, rfl⟩ : ∃ a n c, pv = .slice a n c := by obtain ⟨a, c, h⟩ := EachL.val hrt.props; exact ⟨_, _, _, h⟩
      obtain ⟨af, nf, cf, rfl⟩ : ∃ a n c, fv = .slice a n c := by obtain ⟨a, c, h, _⟩ := h2.form.now; exact ⟨_, _, _, h⟩
      have cB : W.cell? ⟨w.heap.size + 2, 0, none⟩ = some (.pointer (some ⟨w.heap.size + 1, 0, none⟩)) := blk_cell hI.box rfl
      have p0 : W.cell? ⟨w.heap.size + 1, 0, none⟩ = some (.slice av nv cv) := blk_cell h2.blk rfl
      have p1 : W.cell? ⟨w.heap.size + 1, 1, none⟩ = some (.slice ar nr cr) := blk_cell h2.blk rfl
      have p2 : W.cell? ⟨w.heap.size + 1, 2, none⟩ = some (.slice ap np cp) := blk_cell h2.blk rfl
      have p3 : W.cell? ⟨w.heap.size + 1, 3, none⟩ = some (.slice af nf cf) := blk_cell h2.blk rfl
      have HSH := Lib.hid (callsIn_wide.2 (show_any _ _ _ _ (rdL s.data.toList) W hrt (HG.out.ext hI.low)) : CallsIn Fence.wide 2 Tryz.prog 5 _ _ _)
      have HI := Lib.hid hI
      have HPD := Lib.hid fun wx (hE : Ext W wx) => h2.call hE
      clear hI h1 h2 hrt
      gi_wp2_with fail
      refine ⟨trivial, ?_⟩
      refine HSH.out.mono ?_
      rintro e w2 ⟨c, hc, hE, rfl⟩
      have HPE := Lib.hid (HPD.out w2 hE)
      have HE := Lib.hid (Ext.trans HI.out.low hE)
      have HC := Lib.hid hc
      have cB2 := cell_later hE cB
      have q0 := cell_later hE p0
      have q1 := cell_later hE p1
      have q2 := cell_later hE p2
      have q3 := cell_later hE p3
      have HBL := Lib.hid (blk_ext HI.out.res hE)
      have HDF := Lib.hid (blk_ext HI.out.dfr hE)
      have r0 : w2.cell? ⟨w.heap.size, 0, none⟩ = some (.slice none 0 0) := blk_cell HBL.out rfl
      have r1 : w2.cell? ⟨w.heap.size, 1, none⟩ = some (.slice none 0 0) := blk_cell HBL.out rfl
      have r2 : w2.cell? ⟨w.heap.size, 2, none⟩ = some (.slice none 0 0) := blk_cell HBL.out rfl
      have r3 : w2.cell? ⟨w.heap.size, 3, none⟩ = some (.slice none 0 0) := blk_cell HBL.out rfl
      have zr := blk_free HBL.out
      clear hE hc cB p0 p1 p2 p3 HSH HPD
      have HEND := Lib.hid fun x0 x1 x2 x3 => (show Ext w (((((w2.setCell ⟨w.heap.size, 0, none⟩ x0).setCell ⟨w.heap.size, 1, none⟩ x1).setCell ⟨w.heap.size, 2, none⟩ x2).setCell ⟨w.heap.size, 3, none⟩ x3).putObj (w.heap.size + 4) (.deferred none)) from Ext.put (ext_set4 HE.out (Nat.le_refl _) x0 x1 x2 x3) _ (by omega))
      by_cases h0 : c = 0
      · subst h0
        by_cases hq : showL (rdL s.data.toList) = s.data.toList
        · have HOK := Lib.hid fun (t : TaskG (rdL s.data.toList)) wx h => (show ReadE s.data.toList wx (.returned (.tuple #[.agg #[.slice av nv cv, .slice ar nr cr, .slice ap np cp, .slice af nf cf], .int .i64 0])) from .inr (.inr ⟨HS.out, t, hq, _, _, _, _, h, rfl⟩))
          rw [if_pos rfl, hq, Lib.mk_data]
          clear hq
          gi_wp2
          refine read_leaves (blk_set4 HBL.out _ _ _ _) ((far_set4 (by omega) _ _ _ _).trans HDF.out) (by omega) rfl rfl ⟨HEND.out _ _ _ _, HOK.out (by simpa using HC.out) _ ?_⟩
          exact (((((HPE.out.st 0 (by omega) (by omega) _).st 1 (by omega) (by omega) _).st 2 (by omega) (by omega) _).st 3 (by omega) (by omega) _).keep (nw_put _ _ _ (by omega)) (World.putObj_heap_other (by omega))).rt
        · have HNO := Lib.hid fun wx => (show ReadE s.data.toList wx (.returned (.tuple #[zeroT, .int .i64 3])) from .inr (.inl ⟨HS.out, fun h => hq h.2, rfl⟩))
          rw [if_pos rfl]
          obtain ⟨sx, hsx⟩ : ∃ sx : ByteArray, (⟨(showL (rdL s.data.toList)).toArray⟩ : ByteArray) = sx := ⟨_, rfl⟩
          rw [hsx]
          have q : (sx.toList == s.toList) = false := by rw [beq_eq_false_iff_ne, ByteArray.toList_eq, ByteArray.toList_eq, ← hsx]; exact hq
          clear hsx hq
          gi_wp2
          exact read_leaves (blk_set4 HBL.out _ _ _ _) ((far_set4 (by omega) _ _ _ _).trans HDF.out) (by omega) rfl rfl ⟨HEND.out _ _ _ _, HNO.out _⟩
      · have HNO := Lib.hid fun wx => (show ReadE s.data.toList wx (.returned (.tuple #[zeroT, .int .i64 3])) from .inr (.inl ⟨HS.out, fun h => h0 (HC.out.2 h.1), rfl⟩))
        rw [if_neg h0]
        gi_wp2
        exact read_leaves (blk_set4 HBL.out _ _ _ _) ((far_set4 (by omega) _ _ _ _).trans HDF.out) (by omega) rfl rfl ⟨HEND.out _ _ _ _, HNO.out _⟩
end Go.Proofs.YtfcaomejbcjfgaaGreatDoor
