/- The law ModelTwice. -/
import Derived.Test.YtkkbefhnklpfaaaDoorMdL8
import Derived.Test.YtkkbefhnklpfaaaDoorMdX
import Derived.Test.YtkkbefhnklpfaaaDoorStep
import Derived.Deep.DeepCutAuto
import Derived.Deep.RegionLaw
namespace Go.Proofs.YtkkbefhnklpfaaaDoor
open Go.RowKit

theorem num_one (n : Int) (w : World) :
    Calls Tryd.prog 11 #[.int .i64 n] w fun e w' => e = .returned (.slice (some ⟨w.heap.size, 0, none⟩) 1 1) ∧ IsT w' (.slice (some ⟨w.heap.size, 0, none⟩) 1 1) (.n0 1 n) ∧ Ext w w' := by
  go_enter Tryd.func11, Tryd.ntmps11
  go_wp2
  go_ret
  exact ⟨rfl, isT_lit _ _ _ _ _ rfl, ext_al (Ext.refl w) _⟩

theorem grown_setM (w : World) (p : Addr) (u : Value) : w.grownBy (w.setCell p u) (some p.block) :=
  ⟨rfl, rfl, rfl, by simp, fun b _ hn => Below.heap_setCell _ _ _ _ (fun e => hn (by rw [e]))⟩
theorem reads_set {w : World} {sz : Nat} {q : Addr} {n c : Nat} {xs : List Value} {m : Nat} (h : Reads w sz (.slice (some q) n c) m xs) {p : Addr} (hp : q.block ≠ p.block) (u : Value) : Reads (w.setCell p u) sz (.slice (some q) n c) m xs :=
  Reads.grown h (grown_setM w p u) (.inr (.inr fun e => hp (by simpa [Value.ownBlock] using e)))
theorem reads_far {w w' : World} {sz : Nat} {q : Addr} {n c : Nat} {xs : List Value} {m : Nat} {row : Option Nat} (h : Reads w sz (.slice (some q) n c) m xs) (hg : w.grownBy w' row) (hr : ∀ b, row = some b → b ≠ q.block) : Reads w' sz (.slice (some q) n c) m xs :=
  Reads.grown h hg (.inr (.inr fun e => hr q.block (by rw [← e]; rfl) rfl))

/-- Four models beside each other, as long as they stand. -/
structure Trio (w : World) (D X Y : Nat) (vv rv xv yr : Value) (m mx my : Md) : Prop where
  d : w.heap[D]? = some (.cells #[vv, rv] 29 (0, 0))
  x : w.heap[X]? = some (.cells #[xv, rv] 29 (0, 0))
  y : w.heap[Y]? = some (.cells #[vv, yr] 29 (0, 0))
  md : IsMd w vv rv m
  mx : IsMd w xv rv mx
  my : IsMd w vv yr my
theorem Trio.ext {w w' : World} {D X Y : Nat} {vv rv xv yr : Value} {m mx my : Md} (h : Trio w D X Y vv rv xv yr m mx my) (hE : Ext w w') : Trio w' D X Y vv rv xv yr m mx my :=
  ⟨blk_ext h.d hE, blk_ext h.x hE, blk_ext h.y hE, h.md.ext hE, h.mx.ext hE, h.my.ext hE⟩
theorem isT_set {w : World} {q : Addr} {n c : Nat} {t : Tm} (h : IsT w (.slice (some q) n c) t) {p : Addr} (hp : q.block ≠ p.block) (u : Value) : IsT (w.setCell p u) (.slice (some q) n c) t := reads_set h hp u
theorem Row.two (w : World) (t : TypeId) (sz : Nat) (cs : List Value) (hs : cs.length = 2 * sz) : Row (w.alloc (.cells cs.toArray t)) sz (some ⟨w.heap.size, 0, none⟩) 2 2 cs := by
  refine ⟨by omega, Nat.le_refl _, by unfold maxLen; omega, w.heap.size, 0, (by intro h; cases h), fun _ => rfl, fun j u hu => ?_⟩
  rw [Nat.zero_add, World.cell?_alloc_at _ _ _ _ rfl]
  simpa using hu

def rlY : Rl := ⟨.n0 11 0, [(1, .n0 1 0), (1, .n0 1 1)]⟩
def rlZ : Rl := ⟨.n0 1 1, []⟩
theorem yes_sub : Sub (.n0 11 0) 2 := by
  refine ⟨?_, ?_, rfl⟩
  · simp only [Tm.ok]
    exact ⟨by omega, by omega, by decide⟩
  · intro o ho
    simp only [Tm.flat, List.mem_singleton] at ho
    subst ho
    decide
theorem rlY_pre : RlPre 2 rlY := ⟨by decide, yes_sub, by decide, fun s hs => by
  have h0 := leaf_sub 1 0 (.inl rfl) (by omega) (by omega)
  have h1 := leaf_sub 1 1 (.inl rfl) (by omega) (by omega)
  simp only [rlY, List.mem_cons, List.not_mem_nil, or_false] at hs
  rcases hs with rfl | rfl
  · exact ⟨by decide, by decide, h0, by decide, rfl⟩
  · exact ⟨by decide, by decide, h1, by decide, rfl⟩⟩
theorem rlZ_pre : RlPre 2 rlZ := ⟨by decide, leaf_sub 1 1 (.inl rfl) (by omega) (by omega), by decide, fun s hs => by simp [rlZ] at hs⟩
theorem rlY_E : ruleE rlY = 7 := by decide
theorem rlZ_E : ruleE rlZ = 5 := by decide

set_option maxRecDepth 100000 in
set_option maxHeartbeats 16000000 in
theorem modelTwice_walk (pv : Value) (d : Dn) (ix : Int) (W : World) (ht : Tab W) (hpl : IsPlans W pv d.rules) (hd : DnI d) (hix : I64 ix) :
    Calls Tryd.prog 3 #[.agg (dnc d pv), .int .i64 ix] W fun e w' => e = .returned (.bool true) ∧ Ext W w' := by
  have EE := ext_al (Ext.refl W) (Obj.cells (dnc d pv) 25)
  have HMO := Lib.hid (model_any pv d _ (hpl.ext EE) hd)
  have D := d.drawn
  have HEE := Lib.hid EE
  have HTB := Lib.hid (ht.ext EE)
  obtain ⟨ix1, ix2⟩ := hix
  generalize d.md = m at *
  simp only [dnc] at HMO HEE HTB ⊢
  clear ht hpl hd EE
  go_enter Tryd.func3, Tryd.ntmps3
  go_wp2_with fail
  generalize W.alloc (Obj.cells #[.int .i64 d.s0, .int .i64 d.s1, .int .i64 d.l0, .int .i64 d.l1, .int .i64 d.i0, .int .i64 d.i1, pv] 25) = W0 at *
  refine HMO.out.mono ?_
  rintro e w1 ⟨vv, rv, rfl, hM, hE1⟩
  obtain ⟨av, cv, ar, cr, rfl, rfl⟩ := hM.shape D.two
  have hx := ext_al (Ext.refl w1) (Obj.cells #[.slice av 2 cv, .slice ar m.rules.length cr] 29)
  have hb := blk_new w1 (Obj.cells #[.slice av 2 cv, .slice ar m.rules.length cr] 29)
  have HM := Lib.hid (hM.ext hx)
  have HX := Lib.hid (HEE.out.trans (hE1.trans hx))
  have HT := Lib.hid (HTB.out.ext (hE1.trans hx))
  have HB := Lib.hid hb
  have m0 := blk_cell hb (i := 0) rfl
  have m1 := blk_cell hb (i := 1) rfl
  clear hM hE1 hx hb HMO HEE HTB
  have hn1 := D.n1
  have hn16 := D.n16
  have h5 := D.five
  have HD := Lib.hid D
  clear D
  go_wp2_with fail
  have HW2 := Lib.hid (show (w1.alloc (Obj.cells #[.slice av 2 cv, .slice ar m.rules.length cr] 29)).heap.size = w1.heap.size + 1 by simp)
  generalize w1.alloc (Obj.cells #[.slice av 2 cv, .slice ar m.rules.length cr] 29) = W2 at *
  have hb2X := blk_new W2 (Obj.cells #[.slice av 2 cv, .slice ar m.rules.length cr] 29)
  have hx2X := ext_al (Ext.refl W2) (Obj.cells #[.slice av 2 cv, .slice ar m.rules.length cr] 29)
  rw [HW2.out] at hb2X
  have HB3 := Lib.hid (blk_ext HB.out hx2X)
  have HX3 := Lib.hid hb2X
  have HXX := Lib.hid hx2X
  have HS3 := Lib.hid (show (W2.alloc (Obj.cells #[.slice av 2 cv, .slice ar m.rules.length cr] 29)).heap.size = W2.heap.size + 1 by simp)
  clear hb2X hx2X
  go_upto_region 3 with fail
  generalize W2.alloc (Obj.cells #[.slice av 2 cv, .slice ar m.rules.length cr] 29) = W3 at *
  clear m0 m1
  have m0 := blk_cell HB3.out (i := 0) rfl
  have hrow : Row W3 4 av 2 cv (m.vars.flatMap vrc) := by
    have h := reads_of_isVars (HM.out.vars.ext HXX.out)
    rw [HD.out.two] at h
    obtain ⟨a0, c0, e0, hr⟩ := h
    simp only [Value.slice.injEq] at e0
    obtain ⟨rfl, -, rfl⟩ := e0
    exact hr
  have HROW := Lib.hid hrow
  have HPK := Lib.hid fun wx => picked_any ix 2 wx ix1 ix2 (by omega) (by omega)
  obtain ⟨hk1, hk2⟩ := pk_bd ix 2 (by omega)
  obtain ⟨k, hk⟩ : ∃ k : Nat, pk ix 2 = (k : Int) := ⟨(pk ix 2).toNat, by omega⟩
  rw [hk] at HPK hk1 hk2
  have hkl : k < m.vars.length := by rw [HD.out.two]; omega
  obtain ⟨a0, c0, e0, _, bv, ov, hav, hvc⟩ := (HM.out.vars.ext HXX.out).at
  simp only [Value.slice.injEq] at e0
  obtain ⟨rfl, -, rfl⟩ := e0
  obtain rfl := hav (by omega)
  obtain ⟨v0, v1, v2, v3⟩ := hvc k hkl
  have HVK := Lib.hid (show (m.vars[k] : Vr) ∈ m.vars by simp)
  have HNN := Lib.hid (not_nodup_again hkl)
  generalize m.vars[k] = z at *
  clear hk hav hvc hkl hrow
  go_cut [] (fun wx => ∃ a6 c6, Ext W2 wx ∧ wx.heap[w1.heap.size + 1]? = some (.cells #[.slice a6 3 c6, .slice ar m.rules.length cr] 29 (0, 0)) ∧ wx.ownsRow W3.heap.size 32 4 (.slice a6 3 c6) 3 (m.vars.flatMap vrc ++ vrc z))
  case first =>
    have m0L := cell_later (ext_al (Ext.refl W3) (Obj.cells #[.string z.name, .int .i64 z.low, .int .i64 z.high, .int .i64 z.init] 32)) m0
    have hs1 : w1.heap.size < W2.heap.size := blk_lt HB.out
    go_region_law (first
      | (refine step_append rfl rfl Tryd.slVars W3.heap.size (by rfl) (own_ext HOA.out (by first | exact Ext.refl _ | exact Below.drew (Ext.refl _) | exact ext_al (Ext.refl _) _ | exact Below.drew (ext_al (Ext.refl _) _) | exact ext_al (Below.drew (Ext.refl _)) _)) (by rfl) (by first | exact Row.newK _ _ 4 _ _ rfl rfl | exact (Row.newK _ _ 4 _ _ rfl rfl).ext (Below.drew (Ext.refl _)) | exact HLIT.out | exact HLIT.out.ext (Below.drew (Ext.refl _))) (by intro u hu; simp only [List.mem_cons, List.not_mem_nil, or_false] at hu; rcases hu with rfl | rfl | rfl | rfl <;> rfl) (by unfold maxLen; omega) (by omega) (by have := HS4.out; first | exact this | (simp; omega)) ?_
         intro v6 w6 hown6 hg6 hb6 _
         obtain ⟨a6, c6, rfl, _⟩ := id hown6.row
         have hx6 : Ext W3 w6 := by
           first
             | exact Below.grown HX4.out hg6 HX4.out.size (fun b hb => (HOA.out.lt b hb).1)
             | exact Below.grown (HX4.out.trans (Below.drew (Ext.refl _))) hg6 (HX4.out.trans (Below.drew (Ext.refl _))).size (fun b hb => (HOA.out.lt b hb).1)
             | exact Below.grown (HX4.out.trans (ext_al (Ext.refl _) _)) hg6 (HX4.out.trans (ext_al (Ext.refl _) _)).size (fun b hb => (HOA.out.lt b hb).1)
             | exact Below.grown (HX4.out.trans (Below.drew (ext_al (Ext.refl _) _))) hg6 (HX4.out.trans (Below.drew (ext_al (Ext.refl _) _))).size (fun b hb => (HOA.out.lt b hb).1)
             | exact Below.grown (HX4.out.trans (ext_al (Below.drew (Ext.refl _)) _)) hg6 (HX4.out.trans (ext_al (Below.drew (Ext.refl _)) _)).size (fun b hb => (HOA.out.lt b hb).1)
         have hX6 := blk_ext HX3.out hx6
         have x06 := blk_cell hX6 (i := 0) rfl
         have f06 := blk_free hX6 0
         have HX6 := Lib.hid hX6
         have HXE6 := Lib.hid hx6
         have HO6 := Lib.hid hown6
         clear hown6 hg6 hb6 hx6 hX6)
      | (refine step_append rfl rfl Tryd.slVars W3.heap.size (by rfl) (World.ownsRow_nil _ _ _ _) (by rfl) (HROW.out.ext (by first | exact Ext.refl _ | exact Below.drew (Ext.refl _) | exact ext_al (Ext.refl _) _ | exact Below.drew (ext_al (Ext.refl _) _) | exact ext_al (Below.drew (Ext.refl _)) _)) (vrcs_one _) (by unfold maxLen; omega) (by omega) (by first | exact Nat.le_refl _ | exact Nat.le_succ _ | (simp; done)) ?_
         intro v4 w4 hown4 hg4 hb4 _
         obtain ⟨a4, c4, rfl, _⟩ := id hown4.row
         have hx4 : Ext W3 w4 := by
           first
             | exact Below.grown (Ext.refl _) hg4 (Nat.le_refl _) (by intro b hb; simp [Value.ownBlock] at hb)
             | exact Below.grown (Below.drew (Ext.refl _)) hg4 (Nat.le_refl _) (by intro b hb; simp [Value.ownBlock] at hb)
             | exact Below.grown (ext_al (Ext.refl _) _) hg4 (ext_al (Ext.refl _) _).size (by intro b hb; simp [Value.ownBlock] at hb)
             | exact Below.grown (Below.drew (ext_al (Ext.refl _) _)) hg4 (Below.drew (ext_al (Ext.refl _) _)).size (by intro b hb; simp [Value.ownBlock] at hb)
             | exact Below.grown (ext_al (Below.drew (Ext.refl _)) _) hg4 (ext_al (Below.drew (Ext.refl _)) _).size (by intro b hb; simp [Value.ownBlock] at hb)
         first
           | (have hlit : Row w4 4 (some ⟨W3.heap.size, 0, none⟩) 1 1 (vrc z) := by
                first
                  | exact (Row.newK W3 32 4 _ (vrc z) rfl rfl).keep fun p hp _ => by injection hp with hp; subst hp; exact hg4.block _ (by simp) (by simp [Value.ownBlock])
                  | exact (Row.newK W3.drew 32 4 _ (vrc z) rfl rfl).keep fun p hp _ => by injection hp with hp; subst hp; exact hg4.block _ (by simp) (by simp [Value.ownBlock])
              have HLIT := Lib.hid hlit
              clear hlit)
           | skip
         have m04 := cell_later hx4 m0
         have v04 := cell_later hx4 v0
         have v14 := cell_later hx4 v1
         have v24 := cell_later hx4 v2
         have v34 := cell_later hx4 v3
         have HX4 := Lib.hid hx4
         have HS4 := Lib.hid hx4.size
         have HOA := Lib.hid hown4
         clear hown4 hg4 hb4 hx4)
      | (go_simp
         go_at_call 10
         refine (HPK.out _).mono ?_
         rintro e wq ⟨rfl, rfl⟩))
    all_goals
      go_wp2_with fail
      go_meet
      have hw2 := HW2.out
      have hw3 := HS3.out
      exact ⟨a6, c6, ext_st (HXX.out.trans HXE6.out) (by show W2.heap.size ≤ w1.heap.size + 1; omega) _, blk_set HX6.out _, own_setCell HO6.out _ (fun e => by have := (HO6.out.lt _ e).1; simp only at this; omega)⟩
  case rest =>
    obtain ⟨a6, c6, hE6, hX6, hO6⟩ := hcut
    have HE6 := Lib.hid hE6
    have HX6 := Lib.hid hX6
    have HO6 := Lib.hid hO6
    have m0 := blk_cell (blk_ext HB.out hE6) (i := 0) rfl
    have m1 := blk_cell (blk_ext HB.out hE6) (i := 1) rfl
    have hb5 := blk_new wc (Obj.cells #[.slice (some ⟨bv, ov, none⟩) 2 cv, .slice ar m.rules.length cr] 29)
    have hx5 := ext_al (Ext.refl wc) (Obj.cells #[.slice (some ⟨bv, ov, none⟩) 2 cv, .slice ar m.rules.length cr] 29)
    have hs5 : (wc.alloc (Obj.cells #[.slice (some ⟨bv, ov, none⟩) 2 cv, .slice ar m.rules.length cr] 29)).heap.size = wc.heap.size + 1 := by simp
    obtain ⟨Y, hY⟩ : ∃ Y, wc.heap.size = Y := ⟨_, rfl⟩
    rw [hY] at hb5 hs5
    have HB5 := Lib.hid hb5
    have HE5 := Lib.hid (hE6.trans hx5)
    have HX5 := Lib.hid (blk_ext hX6 hx5)
    have HO5 := Lib.hid (own_ext hO6 hx5)
    have HS5 := Lib.hid hs5
    have HYY := Lib.hid hY
    clear v0 v1 v2 v3 hE6 hX6 hO6 HROW HPK
    go_upto_region 5 with fail
    generalize wc.alloc (Obj.cells #[.slice (some ⟨bv, ov, none⟩) 2 cv, .slice ar m.rules.length cr] 29) = W5 at *
    clear hb5 hx5 hs5 m0 m1 hY
    have m1 := blk_cell (blk_ext HB.out HE5.out) (i := 1) rfl
    obtain ⟨css, h1, h2, ⟨a0, c0, e0, hrr⟩, h4⟩ := HM.out.rules
    simp only [Value.slice.injEq] at e0
    obtain ⟨rfl, -, rfl⟩ := e0
    have hone : ∀ u ∈ css.flatten, u.oneCell' = true := by
      intro u hu
      obtain ⟨cs, hcs, huc⟩ := List.mem_flatten.1 hu
      obtain ⟨i, hi, e⟩ := List.mem_iff_getElem.1 hcs
      obtain ⟨g, t, e2, hg, ht⟩ := h4 i cs m.rules[i] (by rw [← e]; simp) (by simp)
      obtain ⟨_, _, _, rfl⟩ := hg.val
      obtain ⟨_, _, rfl⟩ := EachL.val ht
      rw [e2] at huc
      simp at huc
      rcases huc with rfl | rfl <;> rfl
    have HRR0 := Lib.hid hrr
    have HRR := Lib.hid (hrr.ext HE5.out)
    have HONE := Lib.hid hone
    have HC1 := Lib.hid h1
    have HC2 := Lib.hid h2
    have HC4 := Lib.hid h4
    clear h1 h2 h4 hrr hone
    go_wp2_with (at_builtin; go_must (refine wpl_append rfl rfl Tryd.slRules W5.heap.size rfl (World.ownsRow_nil _ _ _ _) rfl HRR.out HONE.out (by unfold maxLen; omega) (by omega) (Nat.le_refl _) ?_))
    intro v7 w7 hown7 hg7 hb7 _
    obtain ⟨a7, c7, rfl, _⟩ := id hown7.row
    have HX7 := Lib.hid (show Ext W5 w7 from Below.grown (Ext.refl _) hg7 (Nat.le_refl _) (by intro b hb; simp [Value.ownBlock] at hb))
    have HO7 := Lib.hid hown7
    clear hown7 hg7 hb7 m1
    have HG8 := Lib.hid (isT_lit w7 35 11 0 w7.heap.size rfl)
    have HX8 := Lib.hid (HX7.out.trans (ext_al (Ext.refl w7) (Obj.cells #[.int .i64 11, .int .i64 0] 35)))
    have HY8 := Lib.hid (ext_al (Ext.refl w7) (Obj.cells #[.int .i64 11, .int .i64 0] 35))
    go_wp2_with fail
    generalize w7.alloc (Obj.cells #[.int .i64 11, .int .i64 0] 35) = w8 at *
    refine (num_one 0 w8).mono ?_
    rintro e w9 ⟨rfl, hT9, hE9⟩
    have HT9 := Lib.hid hT9
    have HE9 := Lib.hid hE9
    clear hT9 hE9
    go_wp2_with fail
    refine (num_one 1 w9).mono ?_
    rintro e wA ⟨rfl, hTA, hEA⟩
    have HTA := Lib.hid hTA
    have HEA := Lib.hid hEA
    clear hTA hEA
    have hLB := ext_al (Ext.refl wA) (Obj.cells #[.int .i64 1, .slice (some ⟨w8.heap.size, 0, none⟩) 1 1, .int .i64 1, .slice (some ⟨w9.heap.size, 0, none⟩) 1 1] 39)
    have HSB := Lib.hid (show Reads (wA.alloc (Obj.cells #[.int .i64 1, .slice (some ⟨w8.heap.size, 0, none⟩) 1 1, .int .i64 1, .slice (some ⟨w9.heap.size, 0, none⟩) 1 1] 39)) 2 (.slice (some ⟨wA.heap.size, 0, none⟩) 2 2) 2 [.int .i64 1, .slice (some ⟨w8.heap.size, 0, none⟩) 1 1, .int .i64 1, .slice (some ⟨w9.heap.size, 0, none⟩) 1 1] from ⟨_, _, rfl, Row.two wA _ 2 [.int .i64 1, .slice (some ⟨w8.heap.size, 0, none⟩) 1 1, .int .i64 1, .slice (some ⟨w9.heap.size, 0, none⟩) 1 1] rfl⟩)
    have hsB : (wA.alloc (Obj.cells #[.int .i64 1, .slice (some ⟨w8.heap.size, 0, none⟩) 1 1, .int .i64 1, .slice (some ⟨w9.heap.size, 0, none⟩) 1 1] 39)).heap.size = wA.heap.size + 1 := by simp
    have HLB := Lib.hid hLB
    have HSZB := Lib.hid hsB
    clear hLB hsB
    obtain ⟨wB, hwB⟩ : ∃ x, wA.alloc (Obj.cells #[.int .i64 1, .slice (some ⟨w8.heap.size, 0, none⟩) 1 1, .int .i64 1, .slice (some ⟨w9.heap.size, 0, none⟩) 1 1] 39) = x := ⟨_, rfl⟩
    rw [hwB] at HLB HSZB HSB
    have HWB := Lib.hid hwB
    clear hwB
    have HOC := Lib.hid fun (o : Obj) => (show (wB.alloc o).ownsRow W5.heap.size 42 2 (.slice a7 m.rules.length c7) m.rules.length css.flatten from by
      have h := own_ext (own_ext (own_ext (own_ext (own_ext HO7.out HY8.out) HE9.out) HEA.out) HLB.out) (ext_al (Ext.refl wB) o)
      simpa using h)
    have hs57 := HX8.out.size
    have hs89 := HE9.out.size
    have hs9A := HEA.out.size
    have hsB2 := HSZB.out
    have HSZ := Lib.hid (show W5.heap.size ≤ wB.heap.size by omega)
    clear hs57 hs89 hs9A hsB2
    go_wp2_with (at_builtin; go_must (rw [HWB.out]; refine wpl_append rfl rfl Tryd.slRules W5.heap.size rfl (HOC.out _) rfl (Row.newK _ _ 2 _ _ rfl (by have := HSZB.out; simp [this])) (by intro u hu; simp only [List.mem_cons, List.not_mem_nil, or_false] at hu; rcases hu with rfl | rfl <;> rfl) (by unfold maxLen; omega) (by omega) (by have := HSZ.out; simp; omega) ?_))
    intro v12 w12 hown12 hg12 hb12 _
    obtain ⟨a12, c12, rfl, _⟩ := id hown12.row
    have hC := ext_al (Ext.refl wB) (Obj.cells #[.slice (some ⟨w7.heap.size, 0, none⟩) 1 1, .slice (some ⟨wA.heap.size, 0, none⟩) 2 2] 42)
    have hx12 : Ext W5 w12 := Below.grown ((HX8.out.trans (HE9.out.trans (HEA.out.trans HLB.out))).trans hC) hg12 ((HX8.out.trans (HE9.out.trans (HEA.out.trans HLB.out))).trans hC).size (fun b hb => ((HOC.out (Obj.cells #[] 0)).lt b hb).1)
    have hr7 : ∀ b, (Value.slice a7 m.rules.length c7).ownBlock = some b → b < w7.heap.size := fun b hb => (HO7.out.lt b (by simpa using hb)).2
    have hY5 := blk_ext HB5.out hx12
    have y1 := blk_cell hY5 (i := 1) rfl
    have g1 := blk_free hY5 1
    have hW5 := HS5.out
    have hw2y : W2.heap.size ≤ Y := by have := HYY.out; have := HE6.out.size; omega
    have s78 := HY8.out.size
    have s57 := HX7.out.size
    have s89 := HE9.out.size
    have s9A := HEA.out.size
    have hE13 : Ext W2 (w12.setCell ⟨Y, 1, none⟩ (.slice a12 (m.rules.length + 1) c12)) := ext_st (HE5.out.trans hx12) (by show W2.heap.size ≤ Y; omega) _
    have hgT : IsT (w12.setCell ⟨Y, 1, none⟩ (.slice a12 (m.rules.length + 1) c12)) (.slice (some ⟨w7.heap.size, 0, none⟩) 1 1) (.n0 11 0) :=
      isT_set (reads_far (Reads.ext HG8.out (HE9.out.trans (HEA.out.trans (HLB.out.trans hC)))) hg12 (fun b hb => by have := hr7 b hb; show b ≠ w7.heap.size; omega)) (by show w7.heap.size ≠ Y; omega) _
    have h9T : IsT (w12.setCell ⟨Y, 1, none⟩ (.slice a12 (m.rules.length + 1) c12)) (.slice (some ⟨w8.heap.size, 0, none⟩) 1 1) (.n0 1 0) :=
      isT_set (reads_far (Reads.ext HT9.out (HEA.out.trans (HLB.out.trans hC))) hg12 (fun b hb => by have := hr7 b hb; show b ≠ w8.heap.size; omega)) (by show w8.heap.size ≠ Y; omega) _
    have hAT : IsT (w12.setCell ⟨Y, 1, none⟩ (.slice a12 (m.rules.length + 1) c12)) (.slice (some ⟨w9.heap.size, 0, none⟩) 1 1) (.n0 1 1) :=
      isT_set (reads_far (Reads.ext HTA.out (HLB.out.trans hC)) hg12 (fun b hb => by have := hr7 b hb; show b ≠ w9.heap.size; omega)) (by show w9.heap.size ≠ Y; omega) _
    have hsT := reads_set (reads_far (Reads.ext HSB.out hC) hg12 (fun b hb => by have := hr7 b hb; show b ≠ wA.heap.size; omega)) (p := ⟨Y, 1, none⟩) (by show wA.heap.size ≠ Y; omega) (.slice a12 (m.rules.length + 1) c12)
    have hsS : IsSets (w12.setCell ⟨Y, 1, none⟩ (.slice a12 (m.rules.length + 1) c12)) (.slice (some ⟨wA.heap.size, 0, none⟩) 2 2) rlY.sets := by
      refine ⟨[[.int .i64 1, .slice (some ⟨w8.heap.size, 0, none⟩) 1 1], [.int .i64 1, .slice (some ⟨w9.heap.size, 0, none⟩) 1 1]], rfl, by simp, hsT, fun i cs x h1 h2 => ?_⟩
      match i, h1, h2 with
      | 0, h1, h2 => simp [rlY] at h1 h2; subst h1; subst h2; exact ⟨_, rfl, h9T⟩
      | 1, h1, h2 => simp [rlY] at h1 h2; subst h1; subst h2; exact ⟨_, rfl, hAT⟩
      | i + 2, h1, h2 => simp [rlY] at h2
    have hne12 : (Value.slice a12 (m.rules.length + 1) c12).ownBlock ≠ some Y := fun e => by have := (hown12.lt _ e).1; omega
    have hMY : IsMd (w12.setCell ⟨Y, 1, none⟩ (.slice a12 (m.rules.length + 1) c12)) (.slice (some ⟨bv, ov, none⟩) 2 cv) (.slice a12 (m.rules.length + 1) c12) ⟨m.vars, m.rules ++ [rlY]⟩ :=
      ⟨HM.out.vars.ext hE13, EachL.snoc HC1.out HC2.out (fun i cs x a b => RuleE.ext (HC4.out i cs x a b) hE13) (own_setCell hown12 (p := ⟨Y, 1, none⟩) (.slice a12 (m.rules.length + 1) c12) hne12).reads rfl ⟨_, _, rfl, hgT, hsS⟩⟩
    have hlen3 : (m.vars ++ [z]).length = 3 := by rw [List.length_append, HD.out.two]; rfl
    have hXV : IsVars (w12.setCell ⟨Y, 1, none⟩ (.slice a12 (m.rules.length + 1) c12)) (.slice a6 3 c6) (m.vars ++ [z]) := by
      refine isVars_of ?_
      rw [hlen3, List.flatMap_append]
      have hne6 : (Value.slice a6 3 c6).ownBlock ≠ some Y := fun e => by have := (HO6.out.lt _ e).2; have := HYY.out; omega
      have h := (own_setCell (own_ext HO5.out hx12) (p := ⟨Y, 1, none⟩) (.slice a12 (m.rules.length + 1) c12) hne6).reads
      simpa using h
    have hw1Y : w1.heap.size + 1 < Y := by have := blk_lt HX6.out; have := HYY.out; omega
    have HTR := Lib.hid (show Trio (w12.setCell ⟨Y, 1, none⟩ (.slice a12 (m.rules.length + 1) c12)) w1.heap.size (w1.heap.size + 1) Y (.slice (some ⟨bv, ov, none⟩) 2 cv) (.slice ar m.rules.length cr) (.slice a6 3 c6) (.slice a12 (m.rules.length + 1) c12) m ⟨m.vars ++ [z], m.rules⟩ ⟨m.vars, m.rules ++ [rlY]⟩ from
      ⟨blk_far (blk_ext (blk_ext HB.out HE5.out) hx12) (by show Y ≠ w1.heap.size; omega) _, blk_far (blk_ext HX5.out hx12) (by show Y ≠ w1.heap.size + 1; omega) _, by have h := blk_set (i := 1) hY5 (.slice a12 (m.rules.length + 1) c12); simpa using h, HM.out.ext hE13, ⟨hXV, HM.out.rules.ext hE13⟩, hMY⟩)
    have HE13 := Lib.hid hE13
    clear hown12 hg12 hb12 hC hx12 hr7 hY5 hW5 hw2y s78 s57 s89 s9A hE13 hgT h9T hAT hsT hsS hne12 hMY hlen3 hXV hw1Y HG8 HT9 HTA HSB HLB HSZB HWB HOC HE9 HEA HX8 HY8 HO7 HX7 HSZ HRR
    go_upto_region 6 with fail
    generalize w12.setCell ⟨Y, 1, none⟩ (.slice a12 (m.rules.length + 1) c12) = w13 at *
    clear y1 g1
    have m0 := blk_cell HTR.out.d (i := 0) rfl
    have m1 := blk_cell HTR.out.d (i := 1) rfl
    have hbZ := blk_new w13 (Obj.cells #[.slice (some ⟨bv, ov, none⟩) 2 cv, .slice ar m.rules.length cr] 29)
    have hxZ := ext_al (Ext.refl w13) (Obj.cells #[.slice (some ⟨bv, ov, none⟩) 2 cv, .slice ar m.rules.length cr] 29)
    have hsZ : (w13.alloc (Obj.cells #[.slice (some ⟨bv, ov, none⟩) 2 cv, .slice ar m.rules.length cr] 29)).heap.size = w13.heap.size + 1 := by simp
    obtain ⟨Z, hZ⟩ : ∃ Z, w13.heap.size = Z := ⟨_, rfl⟩
    rw [hZ] at hbZ hsZ
    have HBZ := Lib.hid hbZ
    have HXZ := Lib.hid hxZ
    have HSZ := Lib.hid hsZ
    have HZZ := Lib.hid hZ
    have HT14 := Lib.hid (HTR.out.ext hxZ)
    clear hbZ hxZ hsZ
    go_upto_region 7 with fail
    clear hZ
    generalize w13.alloc (Obj.cells #[.slice (some ⟨bv, ov, none⟩) 2 cv, .slice ar m.rules.length cr] 29) = w14 at *
    clear m0 m1
    have m1 := blk_cell HT14.out.d (i := 1) rfl
    have HRR := Lib.hid (HRR0.out.ext (HE13.out.trans HXZ.out))
    go_wp2_with (at_builtin; go_must (refine wpl_append rfl rfl Tryd.slRules w14.heap.size rfl (World.ownsRow_nil _ _ _ _) rfl HRR.out HONE.out (by unfold maxLen; omega) (by omega) (Nat.le_refl _) ?_))
    intro v15 w15 hown15 hg15 hb15 _
    obtain ⟨a15, c15, rfl, _⟩ := id hown15.row
    have HX15 := Lib.hid (show Ext w14 w15 from Below.grown (Ext.refl _) hg15 (Nat.le_refl _) (by intro b hb; simp [Value.ownBlock] at hb))
    have HO15 := Lib.hid hown15
    clear hown15 hg15 hb15 m1
    go_wp2_with fail
    refine (num_one 1 w15).mono ?_
    rintro e w16 ⟨rfl, hT16, hE16⟩
    have HT16 := Lib.hid hT16
    have HE16 := Lib.hid hE16
    have HOD := Lib.hid fun (o : Obj) => (show (w16.alloc o).ownsRow w14.heap.size 42 2 (.slice a15 m.rules.length c15) m.rules.length css.flatten from by
      have h := own_ext (own_ext HO15.out hE16) (ext_al (Ext.refl w16) o)
      simpa using h)
    have HS16 := Lib.hid (show w14.heap.size ≤ w16.heap.size from Nat.le_trans HX15.out.size hE16.size)
    clear hT16 hE16
    go_wp2_with (at_builtin; go_must (refine wpl_append rfl rfl Tryd.slRules w14.heap.size rfl (HOD.out _) rfl (Row.newK _ _ 2 _ _ rfl rfl) (by intro u hu; simp only [List.mem_cons, List.not_mem_nil, or_false] at hu; rcases hu with rfl | rfl <;> rfl) (by unfold maxLen; omega) (by omega) (by have := HS16.out; simp; omega) ?_))
    intro v17 w17 hown17 hg17 hb17 _
    obtain ⟨a17, c17, rfl, _⟩ := id hown17.row
    have hD := ext_al (Ext.refl w16) (Obj.cells #[.slice (some ⟨w15.heap.size, 0, none⟩) 1 1, .slice none 0 0] 42)
    have hx17 : Ext w14 w17 := Below.grown ((HX15.out.trans HE16.out).trans hD) hg17 ((HX15.out.trans HE16.out).trans hD).size (fun b hb => ((HOD.out (Obj.cells #[] 0)).lt b hb).1)
    have hr15 : ∀ b, (Value.slice a15 m.rules.length c15).ownBlock = some b → b < w15.heap.size := fun b hb => (HO15.out.lt b (by simpa using hb)).2
    have hZ17 := blk_ext HBZ.out hx17
    have y1 := blk_cell hZ17 (i := 1) rfl
    have g1 := blk_free hZ17 1
    have hW14 := HSZ.out
    have s1415 := HX15.out.size
    have hE18 : Ext w13 (w17.setCell ⟨Z, 1, none⟩ (.slice a17 (m.rules.length + 1) c17)) := ext_st (HXZ.out.trans hx17) (by show w13.heap.size ≤ Z; have := HZZ.out; omega) _
    have hgT : IsT (w17.setCell ⟨Z, 1, none⟩ (.slice a17 (m.rules.length + 1) c17)) (.slice (some ⟨w15.heap.size, 0, none⟩) 1 1) (.n0 1 1) :=
      isT_set (reads_far (Reads.ext HT16.out hD) hg17 (fun b hb => by have := hr15 b hb; show b ≠ w15.heap.size; omega)) (by show w15.heap.size ≠ Z; omega) _
    have hne17 : (Value.slice a17 (m.rules.length + 1) c17).ownBlock ≠ some Z := fun e => by have := (hown17.lt _ e).1; omega
    have HMZ := Lib.hid (show IsMd (w17.setCell ⟨Z, 1, none⟩ (.slice a17 (m.rules.length + 1) c17)) (.slice (some ⟨bv, ov, none⟩) 2 cv) (.slice a17 (m.rules.length + 1) c17) ⟨m.vars, m.rules ++ [rlZ]⟩ from
      ⟨HM.out.vars.ext (HE13.out.trans hE18), EachL.snoc HC1.out HC2.out (fun i cs x a b => RuleE.ext (HC4.out i cs x a b) (HE13.out.trans hE18)) (own_setCell hown17 (p := ⟨Z, 1, none⟩) (.slice a17 (m.rules.length + 1) c17) hne17).reads rfl ⟨_, _, rfl, hgT, EachL.nil 2 SetE _⟩⟩)
    have HBZ2 := Lib.hid (show (w17.setCell ⟨Z, 1, none⟩ (.slice a17 (m.rules.length + 1) c17)).heap[Z]? = some (.cells #[.slice (some ⟨bv, ov, none⟩) 2 cv, .slice a17 (m.rules.length + 1) c17] 29 (0, 0)) from by have h := blk_set (i := 1) hZ17 (.slice a17 (m.rules.length + 1) c17); simpa using h)
    have HTF := Lib.hid (HTR.out.ext hE18)
    have HE18 := Lib.hid (HE13.out.trans hE18)
    clear hown17 hg17 hb17 hD hx17 hr15 hZ17 hW14 s1415 hE18 hgT hne17 HT16 HE16 HOD HS16 HX15 HO15 HRR
    go_upto_region 8 with fail
    generalize w17.setCell ⟨Z, 1, none⟩ (.slice a17 (m.rules.length + 1) c17) = w18 at *
    clear y1 g1
    have HTW := Lib.hid (HT.out.ext HE18.out)
    have hzOk := HD.out.ok.vars z HVK.out
    have HPX := Lib.hid (HD.out.ok.toPre.more hzOk (by rw [HD.out.two]; omega) (by
      have hsp := hzOk.span
      have := Int.mul_le_mul hn16 hsp.2 (by omega) (by omega)
      omega))
    have HPY := Lib.hid (HD.out.ok.toPre.rule (r := rlY) (by rw [HD.out.two]; exact rlY_pre) (by omega))
    have HPZ := Lib.hid (HD.out.ok.toPre.rule (r := rlZ) (by rw [HD.out.two]; exact rlZ_pre) (by omega))
    have HEX := Lib.hid (show modelE ⟨m.vars ++ [z], m.rules⟩ = 7 from modelE_names HNN.out)
    have HEY := Lib.hid (show modelE ⟨m.vars, m.rules ++ [rlY]⟩ = 7 from by rw [modelE_last HD.out.ok, rlY_E]; rfl)
    have HEZ := Lib.hid (show modelE ⟨m.vars, m.rules ++ [rlZ]⟩ = 5 from by rw [modelE_last HD.out.ok, rlZ_E]; rfl)
    have HCM := Lib.hid fun wx (hx : Ext w18 wx) => mcheck_ok _ _ _ wx (HTF.out.md.ext hx) (HTW.out.ext hx) HD.out.ok
    have HCX := Lib.hid fun wx (hx : Ext w18 wx) => mcheck_any _ _ _ wx (HTF.out.mx.ext hx) (HTW.out.ext hx) HPX.out
    have HCY := Lib.hid fun wx (hx : Ext w18 wx) => mcheck_any _ _ _ wx (HTF.out.my.ext hx) (HTW.out.ext hx) HPY.out
    have HCZ := Lib.hid fun wx (hx : Ext w18 wx) => mcheck_any _ _ _ wx (HMZ.out.ext hx) (HTW.out.ext hx) HPZ.out
    rw [HEX.out] at HCX
    rw [HEY.out] at HCY
    rw [HEZ.out] at HCZ
    have m0 := blk_cell HTF.out.d (i := 0) rfl
    have m1 := blk_cell HTF.out.d (i := 1) rfl
    go_wp2_with fail
    refine (HCM.out _ (Ext.refl _)).mono ?_
    rintro e w19 ⟨rfl, hE19⟩
    have hx := HTF.out.ext hE19
    have m0 := blk_cell hx.x (i := 0) rfl
    have m1 := blk_cell hx.x (i := 1) rfl
    have HE19 := Lib.hid hE19
    clear hE19 hx
    go_wp2_with fail
    refine (HCX.out _ HE19.out).mono ?_
    rintro e w20 ⟨rfl, hE20⟩
    have hx := HTF.out.ext (HE19.out.trans hE20)
    have m0 := blk_cell hx.y (i := 0) rfl
    have m1 := blk_cell hx.y (i := 1) rfl
    have HE20 := Lib.hid (HE19.out.trans hE20)
    clear hE20 hx
    go_wp2_with fail
    refine (HCY.out _ HE20.out).mono ?_
    rintro e w21 ⟨rfl, hE21⟩
    have hx := blk_ext HBZ2.out (HE20.out.trans hE21)
    have m0 := blk_cell hx (i := 0) rfl
    have m1 := blk_cell hx (i := 1) rfl
    have HE21 := Lib.hid (HE20.out.trans hE21)
    clear hE21 hx
    go_wp2_with fail
    refine (HCZ.out _ HE21.out).mono ?_
    rintro e w22 ⟨rfl, hE22⟩
    have HEF := Lib.hid (HX.out.trans (HE18.out.trans (HE21.out.trans hE22)))
    clear hE22 m0 m1
    go_wp2
    go_ret
    exact ⟨rfl, HEF.out⟩

theorem modelTwice_law (cs : Array Value) (v1 : Value) (W : World) (ht : Tab W) (h0 : Cells Tryd.prog W 25 cs.toList) (h1 : Cells Tryd.prog W 3 [v1]) :
    Calls Tryd.prog 3 #[.agg cs, v1] W fun e w' => e = .returned (.bool true) ∧ Ext W w' := by
  obtain ⟨d, pv, rfl, hpl, hd⟩ := design_of h0
  obtain ⟨n1, e1, i1⟩ := h1.i64 Tryd.underlying3
  cases e1
  exact modelTwice_walk pv d n1 W ht hpl hd i1

end Go.Proofs.YtkkbefhnklpfaaaDoor
