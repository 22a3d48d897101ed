/- Several texts in one: PrA; PrC; PrB; PrE; TopB0. No condition. -/
import Derived.Test.YtciihiiacbnimaaGreatDoorKv24
import Derived.Test.YtciihiiacbnimaaGreatDoorKv22
import Derived.Test.YtciihiiacbnimaaGreatDoorKv14
import Derived.Test.YtciihiiacbnimaaGreatDoorKv9
import Derived.Deep.DeepCutAuto
import Derived.Deep.RegionLaw
import Derived.Test.YtciihiiacbnimaaGreatDoorKv1
import Derived.Test.YtciihiiacbnimaaGreatDoorKv18
namespace Go.Proofs.YtciihiiacbnimaaGreatDoor
open Go.RowKit
structure IsTask (w : World) (vv rv pv fv : Value) (m : Md) (P : List Tm) (t : Tm) : Prop where
  md : IsMd w vv rv m
  pr : IsTms w pv P
  fo : IsT w fv t
theorem IsTask.ext {w w' : World} {vv rv pv fv : Value} {m : Md} {P : List Tm} {t : Tm} (h : IsTask w vv rv pv fv m P t) (hE : Ext w w') : IsTask w' vv rv pv fv m P t := ⟨h.md.ext hE, h.pr.ext hE, h.fo.ext hE⟩
structure TkOk (m : Md) (P : List Tm) (t : Tm) : Prop where
  ok : m.Ok
  v0 : 0 < m.vars.length
  pk : PropsOk m.vars.length P
  ff : IsF t.flat (P.length : Int) t
theorem IsTask.val {w : World} {vv rv pv fv : Value} {m : Md} {P : List Tm} {t : Tm} (h : IsTask w vv rv pv fv m P t) : ∃ av cv ar cr ap cp af nf cf, vv = .slice av m.vars.length cv ∧ rv = .slice ar m.rules.length cr ∧ pv = .slice ap P.length cp ∧ fv = .slice af nf cf := by
  obtain ⟨av, cv, rfl⟩ := EachL.val h.md.vars
  obtain ⟨ar, cr, rfl⟩ := EachL.val h.md.rules
  obtain ⟨ap, cp, rfl⟩ := EachL.val h.pr
  obtain ⟨af, nf, cf, rfl⟩ := h.fo.val
  exact ⟨av, cv, ar, cr, ap, cp, af, nf, cf, rfl, rfl, rfl, rfl⟩
set_option maxRecDepth 100000 in
set_option maxHeartbeats 4000000 in
theorem pcheck_any (vv rv pv fv : Value) (m : Md) (P : List Tm) (t : Tm) (w : World) (h : IsTask w vv rv pv fv m P t) (ht : Tab w) (hk : TkOk m P t) :
    Calls Tryz.prog 21 #[.agg #[vv, rv, pv, fv]] w fun e w' => e = .returned (.int .i64 0) ∧ Ext w w' := by
  have HPR := Lib.hid fun wx (hx : Ext w wx) => props_any vv rv pv m P wx (h.md.ext hx) (ht.ext hx) hk.ok (h.pr.ext hx) hk.pk
  have HLC := Lib.hid fun wx (hx : Ext w wx) => lcheck_ok fv t.flat (P.length : Int) t wx (h.fo.ext hx) (ht.ext hx) hk.ff
  obtain ⟨av, cv, ar, cr, ap, cp, af, nf, cf, rfl, rfl, rfl, rfl⟩ := h.val
  generalize m.vars.length = nv at *
  generalize m.rules.length = nr at *
  generalize P.length = np at *
  clear h ht hk
  have hb := blk_new w (Obj.cells #[.slice av nv cv, .slice ar nr cr, .slice ap np cp, .slice af nf cf] 35)
  have HE := Lib.hid (ext_al (Ext.refl w) (Obj.cells #[.slice av nv cv, .slice ar nr cr, .slice ap np cp, .slice af nf cf] 35))
  have HB := Lib.hid hb
  have d0 := blk_cell hb (i := 0) rfl
  have d1 := blk_cell hb (i := 1) rfl
  have d2 := blk_cell hb (i := 2) rfl
  clear hb
  go_enter Tryz.func21, Tryz.ntmps21
  go_wp2_with fail
  generalize w.alloc (Obj.cells #[.slice av nv cv, .slice ar nr cr, .slice ap np cp, .slice af nf cf] 35) = W1 at *
  refine (HPR.out _ HE.out).mono ?_
  rintro e w2 ⟨rfl, hE2⟩
  have HX2 := Lib.hid (HE.out.trans hE2)
  have d2 := blk_cell (blk_ext HB.out hE2) (i := 2) rfl
  have d3 := blk_cell (blk_ext HB.out hE2) (i := 3) rfl
  clear hE2 d0 d1
  go_wp2_with fail
  refine (HLC.out _ HX2.out).mono ?_
  rintro e w3 ⟨rfl, hE3⟩
  have HX3 := Lib.hid (HX2.out.trans hE3)
  clear hE3
  go_wp2
  go_ret
  exact ⟨rfl, HX3.out⟩
theorem pow_wrap {k : Nat} (h : k ≤ 6) : wrap64 ((2 : Int) ^ k) = ((2 ^ k : Nat) : Int) := by
  have : k = 0 ∨ k = 1 ∨ k = 2 ∨ k = 3 ∨ k = 4 ∨ k = 5 ∨ k = 6 := by omega
  rcases this with rfl | rfl | rfl | rfl | rfl | rfl | rfl <;> simp [wrap64]
set_option maxRecDepth 100000 in
set_option maxHeartbeats 4000000 in
theorem claims_n (vv rv pv fv : Value) (m : Md) (P : List Tm) (t : Tm) (w : World) (h : IsTask w vv rv pv fv m P t) (ht : Tab w) (hk : TkOk m P t) :
    Calls Tryz.prog 36 #[.agg #[vv, rv, pv, fv]] w fun e w' => e = .returned (.int .i64 ((2 ^ cntA t.flat : Nat) : Int)) ∧ Ext w w' := by
  have HPL := Lib.hid fun wx (hx : Ext w wx) => places_any fv t.flat (P.length : Int) t wx (h.fo.ext hx) (ht.ext hx) hk.ff
  have hc6 := hk.ff.cnt
  have hpl := plL_len t.flat
  obtain ⟨av, cv, ar, cr, ap, cp, af, nf, cf, rfl, rfl, rfl, rfl⟩ := h.val
  generalize m.vars.length = nv at *
  generalize m.rules.length = nr at *
  generalize P.length = np at *
  clear h ht hk
  have hb := blk_new w (Obj.cells #[.slice av nv cv, .slice ar nr cr, .slice ap np cp, .slice af nf cf] 35)
  have HE := Lib.hid (ext_al (Ext.refl w) (Obj.cells #[.slice av nv cv, .slice ar nr cr, .slice ap np cp, .slice af nf cf] 35))
  have d2 := blk_cell hb (i := 2) rfl
  have d3 := blk_cell hb (i := 3) rfl
  clear hb
  have HLL := Lib.hid hpl
  clear hpl
  obtain ⟨k, hk⟩ : ∃ k, cntA t.flat = k := ⟨_, rfl⟩
  rw [hk] at hc6 HLL ⊢
  clear hk
  go_enter Tryz.func36, Tryz.ntmps36
  go_wp2_with fail
  generalize w.alloc (Obj.cells #[.slice av nv cv, .slice ar nr cr, .slice ap np cp, .slice af nf cf] 35) = W1 at *
  refine (HPL.out _ HE.out).mono ?_
  rintro e w2 ⟨a2, c2, rfl, ho2, hE2⟩
  have HX2 := Lib.hid (HE.out.trans hE2)
  rw [HLL.out]
  clear hE2 ho2 d2 d3
  have HPW := Lib.hid (pow_wrap hc6)
  go_wp2_with fail
  go_ret
  exact ⟨congrArg (fun z => Ending.returned (.int .i64 z)) HPW.out, HX2.out⟩
end Go.Proofs.YtciihiiacbnimaaGreatDoor

namespace Go.Proofs.YtciihiiacbnimaaGreatDoor
open Go.RowKit
theorem forO_ok (raw : List Op2) (tempo : Nat) (h : tempo ≤ 6) : IsF (forO raw 3 tempo).flat 3 (forO raw 3 tempo) where
  ok := fT_ok raw 3 4 0 tempo
  flat := rfl
  small := by have := fT_small raw 3 4 tempo; unfold forO; omega
  fit := fT_fit raw 3 4 0 tempo
  cnt := by have := fT_cnt raw 3 4 0 tempo; unfold forO; omega
  p0 := by omega
  p6 := by omega
theorem task_ok (d : Dn) (raw : List Op2) (tempo : Nat) (h : tempo ≤ 6) : TkOk d.md propT (forO raw 3 tempo) :=
  ⟨d.drawn.ok, by rw [d.drawn.two]; omega, by rw [d.drawn.two]; exact propT_ok, forO_ok raw tempo h⟩
abbrev nilV : Value := .slice none 0 0
theorem blkR_ne {w : World} {R b k : Nat} {T : TypeId} {u : Value} (hR : w.heap[R]? = some (.cells #[nilV, nilV, nilV, nilV] T (0, 0))) (hc : w.cell? ⟨b, k, none⟩ = some u) (hu : u ≠ nilV) : b ≠ R := by
  intro e
  subst e
  simp only [World.cell?, hR] at hc
  match k, hc with
  | 0, hc => simp at hc; exact hu hc.symm
  | 1, hc => simp at hc; exact hu hc.symm
  | 2, hc => simp at hc; exact hu hc.symm
  | 3, hc => simp at hc; exact hu hc.symm
  | k + 4, hc => simp at hc
theorem reads_R {w w' : World} {R sz n : Nat} {T : TypeId} {v : Value} {xs : List Value} (h : Reads w sz v n xs) (hR : w.heap[R]? = some (.cells #[nilV, nilV, nilV, nilV] T (0, 0))) (hg : w.grownBy w' (some R)) (hx : xs = [] ∨ ∃ (j : Nat) (u : Value), xs[j]? = some u ∧ u ≠ nilV) : Reads w' sz v n xs := by
  refine Reads.grown h hg ?_
  rcases hx with rfl | ⟨j, u, hj, hu⟩
  · exact .inl rfl
  · refine .inr (.inr fun e => ?_)
    obtain ⟨a, c, rfl, hr⟩ := h
    obtain ⟨b, off, _, h2, h3⟩ := hr.lie
    obtain rfl := h2 (getElem?_pos hj)
    simp [Value.ownBlock] at e
    exact blkR_ne hR (h3 j u hj) hu e
theorem isT_R {w w' : World} {R : Nat} {T : TypeId} {v : Value} {t : Tm} (h : IsT w v t) (hR : w.heap[R]? = some (.cells #[nilV, nilV, nilV, nilV] T (0, 0))) (hg : w.grownBy w' (some R)) : IsT w' v t := by
  refine reads_R h hR hg (.inr ?_)
  have hp : 0 < t.flat.length := by rw [Tm.flat_len]; exact t.size_pos
  cases hf : t.flat with
  | nil => rw [hf] at hp; simp at hp
  | cons o r => exact ⟨0, .int .i64 o.1, by simp [opc], by simp⟩
theorem isT_ne {w : World} {v : Value} {t : Tm} (h : IsT w v t) : v ≠ nilV := by
  obtain ⟨a, c, rfl, _⟩ := h
  intro e
  simp only [Value.slice.injEq] at e
  have := t.size_pos
  rw [Tm.flat_len] at e
  omega
theorem EachL.R {α : Type} {sz : Nat} {E : World → α → List Value → Prop} {w w' : World} {R : Nat} {T : TypeId} {v : Value} {l : List α} (h : EachL sz E w v l) (hR : w.heap[R]? = some (.cells #[nilV, nilV, nilV, nilV] T (0, 0))) (hg : w.grownBy w' (some R)) (hE : ∀ x cs, E w x cs → E w' x cs ∧ ∃ u r, cs = u :: r ∧ u ≠ nilV) : EachL sz E w' v l := by
  obtain ⟨css, h1, h2, h3, h4⟩ := h
  refine ⟨css, h1, h2, reads_R h3 hR hg ?_, fun i cs x a b => (hE x cs (h4 i cs x a b)).1⟩
  cases css with
  | nil => exact .inl rfl
  | cons cs r =>
    cases l with
    | nil => simp at h1
    | cons x l =>
      obtain ⟨_, u, q, rfl, hu⟩ := hE x cs (h4 0 cs x rfl rfl)
      exact .inr ⟨0, u, by simp, hu⟩
theorem IsMd.R {w w' : World} {R : Nat} {T : TypeId} {vv rv : Value} {m : Md} (h : IsMd w vv rv m) (hR : w.heap[R]? = some (.cells #[nilV, nilV, nilV, nilV] T (0, 0))) (hg : w.grownBy w' (some R)) : IsMd w' vv rv m := by
  refine ⟨EachL.R h.vars hR hg fun x cs hx => ⟨hx, ?_⟩, EachL.R h.rules hR hg fun x cs hx => ?_⟩
  · have hx' : cs = vrc x := hx
    subst hx'
    exact ⟨_, _, rfl, by simp⟩
  · obtain ⟨g, t, rfl, hgT, hs⟩ := hx
    refine ⟨⟨g, t, rfl, isT_R hgT hR hg, EachL.R hs hR hg fun y ds hy => ?_⟩, g, [t], rfl, isT_ne hgT⟩
    obtain ⟨v, rfl, hv⟩ := hy
    exact ⟨⟨v, rfl, isT_R hv hR hg⟩, _, _, rfl, by simp⟩
theorem IsTms.R {w w' : World} {R : Nat} {T : TypeId} {v : Value} {l : List Tm} (h : IsTms w v l) (hR : w.heap[R]? = some (.cells #[nilV, nilV, nilV, nilV] T (0, 0))) (hg : w.grownBy w' (some R)) : IsTms w' v l :=
  EachL.R h hR hg fun x cs hx => by
    obtain ⟨v, rfl, hv⟩ := hx
    exact ⟨⟨v, rfl, isT_R hv hR hg⟩, _, _, rfl, isT_ne hv⟩
theorem grown_setP (w : World) (p : Addr) (u : Value) : w.grownBy (w.setCell p u) (some p.block) :=
  ⟨rfl, rfl, rfl, by simp, fun b _ hn => Below.heap_setCell _ _ _ _ (fun e => hn (by rw [e]))⟩
theorem set4 (a b c d u : Value) : (#[a, b, c, d].setIfInBounds 0 u) = #[u, b, c, d] ∧ (#[a, b, c, d].setIfInBounds 1 u) = #[a, u, c, d] ∧ (#[a, b, c, d].setIfInBounds 2 u) = #[a, b, u, d] ∧ (#[a, b, c, d].setIfInBounds 3 u) = #[a, b, c, u] := by simp
set_option maxRecDepth 100000 in
set_option maxHeartbeats 8000000 in
theorem task_any (pv fr : Value) (d : Dn) (raw : List Op2) (tempo : Nat) (w : World) (hpl : IsPlans w pv d.rules) (hd : DnI d) (hr : Ops w fr raw) (hR : RawF raw) (h6 : tempo ≤ 6) :
    Calls Tryz.prog 4 #[.agg (dnc d pv), fr, .int .i64 (tempo : Int)] w fun e w' => ∃ vv rv qv fv, e = .returned (.agg #[vv, rv, qv, fv]) ∧ IsTask w' vv rv qv fv d.md propT (forO raw 3 tempo) ∧ Ext w w' := by
  have HMO := Lib.hid fun wx (hx : Ext w wx) => model_any pv d wx (hpl.ext hx) hd
  have HFO := Lib.hid fun wx (hx : Ext w wx) => mkFormula fr raw 3 tempo wx (ops_ext hr hx) hR (by omega) (by omega) (by omega)
  obtain ⟨af, nf, cf, rfl⟩ : ∃ a n c, fr = .slice a n c := by
    obtain ⟨a, c, rfl, _⟩ := hr
    exact ⟨_, _, _, rfl⟩
  have hx0 := ext_al (Ext.refl w) (Obj.cells (dnc d pv) 25)
  have hb0 := blk_new w (Obj.cells (dnc d pv) 25)
  have hx1 := ext_al (Ext.refl (w.alloc (Obj.cells (dnc d pv) 25))) (Obj.cells #[.slice none 0 0, .slice none 0 0, .slice none 0 0, .slice none 0 0] 35)
  have hb1 := blk_new (w.alloc (Obj.cells (dnc d pv) 25)) (Obj.cells #[.slice none 0 0, .slice none 0 0, .slice none 0 0, .slice none 0 0] 35)
  rw [World.size_alloc] at hb1
  have HX1 := Lib.hid (hx0.trans hx1)
  have HR1 := Lib.hid hb1
  have hbd := blk_ext hb0 hx1
  simp only [dnc] at HMO HX1 HR1 hbd ⊢
  have e0 := blk_cell hbd (i := 0) rfl
  have e1 := blk_cell hbd (i := 1) rfl
  have e2 := blk_cell hbd (i := 2) rfl
  have e3 := blk_cell hbd (i := 3) rfl
  have e4 := blk_cell hbd (i := 4) rfl
  have e5 := blk_cell hbd (i := 5) rfl
  have e6 := blk_cell hbd (i := 6) rfl
  generalize d.md = m at *
  clear hpl hd hr hx0 hb0 hx1 hb1 hbd
  go_enter Tryz.func4, Tryz.ntmps4
  go_wp2_with fail
  refine (HMO.out _ HX1.out).mono ?_
  rintro e w2 ⟨vv, rv, rfl, hM2, hE2⟩
  obtain ⟨av, cv, rfl⟩ := EachL.val hM2.vars
  obtain ⟨ar, cr, rfl⟩ := EachL.val hM2.rules
  have HM2 := Lib.hid hM2
  have HX2 := Lib.hid (HX1.out.trans hE2)
  have HR2 := Lib.hid (blk_ext HR1.out hE2)
  clear hM2 hE2 e0 e1 e2 e3 e4 e5 e6
  go_wp2_with fail
  refine (kprops_any w2).mono ?_
  rintro e w3 ⟨qv, rfl, hQ3, hE3⟩
  obtain ⟨aq, cq, rfl⟩ := EachL.val hQ3
  have HQ3 := Lib.hid hQ3
  have HE3 := Lib.hid hE3
  clear hQ3 hE3
  go_wp2_with fail
  refine (HFO.out _ (HX2.out.trans HE3.out)).mono ?_
  rintro e w4 ⟨fv, rfl, ho4, hE4⟩
  have hT4 := isT_own ho4
  obtain ⟨af2, nf2, cf2, rfl⟩ := hT4.val
  have hR4 := blk_ext HR2.out (HE3.out.trans hE4)
  have HTK := Lib.hid (show IsTask w4 (.slice av m.vars.length cv) (.slice ar m.rules.length cr) (.slice aq propT.length cq) (.slice af2 nf2 cf2) m propT (forO raw 3 tempo) from ⟨HM2.out.ext (HE3.out.trans hE4), HQ3.out.ext hE4, hT4⟩)
  have HX4 := Lib.hid (HX2.out.trans (HE3.out.trans hE4))
  clear ho4 hE4 hT4 HM2 HQ3 HFO HMO
  generalize propT.length = np at *
  generalize m.vars.length = nv at *
  generalize m.rules.length = nr at *
  have HR4 := Lib.hid hR4
  have r0 := blk_cell hR4 (i := 0) rfl
  have f0 := blk_free hR4 0
  have h1 := blk_set (i := 0) hR4 (.slice av nv cv)
  rw [(set4 _ _ _ _ _).1] at h1
  have r1 := blk_cell h1 (i := 1) rfl
  have f1 := blk_free h1 1
  have h2 := blk_set (i := 1) h1 (.slice ar nr cr)
  rw [(set4 _ _ _ _ _).2.1] at h2
  have r2 := blk_cell h2 (i := 2) rfl
  have f2 := blk_free h2 2
  have h3 := blk_set (i := 2) h2 (.slice aq np cq)
  rw [(set4 _ _ _ _ _).2.2.1] at h3
  have r3 := blk_cell h3 (i := 3) rfl
  have f3 := blk_free h3 3
  have h4 := blk_set (i := 3) h3 (.slice af2 nf2 cf2)
  rw [(set4 _ _ _ _ _).2.2.2] at h4
  have H4 := Lib.hid h4
  clear hR4 h1 h2 h3 h4
  go_wp2
  have z0 := blk_cell H4.out (i := 0) rfl
  have z1 := blk_cell H4.out (i := 1) rfl
  have z2 := blk_cell H4.out (i := 2) rfl
  have z3 := blk_cell H4.out (i := 3) rfl
  have hg := (((grown_setP w4 ⟨w.heap.size + 1, 0, none⟩ (.slice av nv cv)).trans' (grown_setP _ ⟨w.heap.size + 1, 1, none⟩ (.slice ar nr cr))).trans' (grown_setP _ ⟨w.heap.size + 1, 2, none⟩ (.slice aq np cq))).trans' (grown_setP _ ⟨w.heap.size + 1, 3, none⟩ (.slice af2 nf2 cf2))
  refine bodyPost_ret (v := .agg #[.slice av nv cv, .slice ar nr cr, .slice aq np cq, .slice af2 nf2 cf2]) (by simp [results, Tryz.results4, go_sem, z0, z1, z2, z3]) rfl ⟨_, _, _, _, rfl, ⟨HTK.out.md.R HR4.out hg, IsTms.R HTK.out.pr HR4.out hg, isT_R HTK.out.fo HR4.out hg⟩, ?_⟩
  exact ext_st (ext_st (ext_st (ext_st HX4.out (by show w.heap.size ≤ w.heap.size + 1; omega) _) (by show w.heap.size ≤ w.heap.size + 1; omega) _) (by show w.heap.size ≤ w.heap.size + 1; omega) _) (by show w.heap.size ≤ w.heap.size + 1; omega) _
end Go.Proofs.YtciihiiacbnimaaGreatDoor

namespace Go.Proofs.YtciihiiacbnimaaGreatDoor
open Go.RowKit
def begL (fi : Int) (L : List Bool) (t : Tm) (i : Nat) : List (Int × Int) := ((List.range i).filter fun c => !(tvT L c t 0).head?.getD false).map fun c : Nat => (fi, (c : Int))
theorem begL_yes {fi : Int} {L : List Bool} {t : Tm} {i : Nat} (h : (tvT L i t 0).head?.getD false = false) : begL fi L t (i + 1) = begL fi L t i ++ [(fi, (i : Int))] := by
  unfold begL
  rw [List.range_succ, List.filter_append, List.map_append]
  simp [h]
theorem begL_no {fi : Int} {L : List Bool} {t : Tm} {i : Nat} (h : (tvT L i t 0).head?.getD false = true) : begL fi L t (i + 1) = begL fi L t i := by
  unfold begL
  rw [List.range_succ, List.filter_append, List.map_append]
  simp [h]
theorem begL_len (fi : Int) (L : List Bool) (t : Tm) (i : Nat) : (begL fi L t i).length ≤ i := by
  unfold begL
  rw [List.length_map]
  exact Nat.le_trans (List.length_filter_le _ _) (by simp)
set_option maxRecDepth 100000 in
set_option maxHeartbeats 8000000 in
theorem begin_any (vv rv pv fv : Value) (m : Md) (P : List Tm) (t : Tm) (w : World) (h : IsTask w vv rv pv fv m P t) (ht : Tab w) (hk : TkOk m P t) :
    Calls Tryz.prog 16 #[.agg #[vv, rv, pv, fv]] w fun e w' => ∃ v, e = .returned (.tuple #[v, .int .i64 0]) ∧
      w'.ownsRow w.heap.size 59 2 v (begL m.first (letS P (valsL m.vars m.first)) t (2 ^ cntA t.flat)).length ((begL m.first (letS P (valsL m.vars m.first)) t (2 ^ cntA t.flat)).flatMap spc) ∧ Ext w w' := by
  have HCK := Lib.hid fun wx (hx : Ext w wx) => pcheck_any vv rv pv fv m P t wx (h.ext hx) (ht.ext hx) hk
  have HCL := Lib.hid fun wx (hx : Ext w wx) => claims_n vv rv pv fv m P t wx (h.ext hx) (ht.ext hx) hk
  have HFI := Lib.hid fun wx (hx : Ext w wx) => first_any vv rv m wx (h.md.ext hx) (ht.ext hx) hk.ok
  have hfb := codeL_bd hk.ok.vars (inits_in hk.ok.vars)
  have HLE := Lib.hid fun wx (hx : Ext w wx) => sletter_any vv rv pv m P m.first wx (h.md.ext hx) (ht.ext hx) hk.ok (h.pr.ext hx) hk.pk hfb.1 hfb.2
  have hll := letS_len P (valsL m.vars m.first)
  have HTR := Lib.hid fun (vl : Value) (c : Nat) wx (hx : Ext w wx) (hL : Bools wx vl (letS P (valsL m.vars m.first))) (hc : c < 2 ^ cntA t.flat) => truths_any fv t.flat t vl (letS P (valsL m.vars m.first)) c wx (h.fo.ext hx) (ht.ext hx) (by rw [hll]; exact hk.ff) hL hc
  have hc6 := hk.ff.cnt
  have hp2 : 2 ^ cntA t.flat ≤ 64 := by
    have := Nat.pow_le_pow_right (n := 2) (by omega) hc6
    simpa using this
  have hfl : 0 < t.flat.length := by rw [Tm.flat_len]; exact t.size_pos
  have hf60 : t.flat.length ≤ 60 := by rw [Tm.flat_len]; exact hk.ff.small
  have HTL := Lib.hid fun (L : List Bool) (c : Nat) => (show 0 < (tvT L c t 0).length by rw [tvT_len]; exact t.size_pos)
  obtain ⟨av, cv, ar, cr, ap, cp, af, nf, cf, rfl, rfl, rfl, rfl⟩ := h.val
  obtain ⟨fi, hfi⟩ : ∃ x, m.first = x := ⟨_, rfl⟩
  rw [hfi] at HFI HLE HTR hll ⊢
  obtain ⟨L, hL⟩ : ∃ x, letS P (valsL m.vars fi) = x := ⟨_, rfl⟩
  rw [hL] at HLE HTR hll ⊢
  obtain ⟨N, hN⟩ : ∃ x, 2 ^ cntA t.flat = x := ⟨_, rfl⟩
  rw [hN] at HCL HTR hp2 ⊢
  clear h ht hk hfi hL hN hfb hc6
  generalize m.vars.length = nv at *
  generalize m.rules.length = nr at *
  generalize hnp : P.length = np at *
  have HLL := Lib.hid hll
  have hb := blk_new w (Obj.cells #[.slice av nv cv, .slice ar nr cr, .slice ap np cp, .slice af nf cf] 35)
  have HE := Lib.hid (ext_al (Ext.refl w) (Obj.cells #[.slice av nv cv, .slice ar nr cr, .slice ap np cp, .slice af nf cf] 35))
  have HB := Lib.hid hb
  have d0 := blk_cell hb (i := 0) rfl
  have d1 := blk_cell hb (i := 1) rfl
  have d2 := blk_cell hb (i := 2) rfl
  have d3 := blk_cell hb (i := 3) rfl
  clear hb hll hnp
  go_enter Tryz.func16, Tryz.ntmps16
  go_wp2_with fail
  generalize w.alloc (Obj.cells #[.slice av nv cv, .slice ar nr cr, .slice ap np cp, .slice af nf cf] 35) = W1 at *
  refine (HCK.out _ HE.out).mono ?_
  rintro e w2 ⟨rfl, hE2⟩
  have HX2 := Lib.hid (HE.out.trans hE2)
  have HY2 := Lib.hid hE2
  have d0 := blk_cell (blk_ext HB.out hE2) (i := 0) rfl
  have d1 := blk_cell (blk_ext HB.out hE2) (i := 1) rfl
  clear hE2 d2 d3
  go_wp2_with fail
  refine (HFI.out _ HX2.out).mono ?_
  rintro e w3 ⟨rfl, hE3⟩
  have HX3 := Lib.hid (HX2.out.trans hE3)
  have HY3 := Lib.hid (HY2.out.trans hE3)
  have hb3 := blk_ext HB.out HY3.out
  have d0 := blk_cell hb3 (i := 0) rfl
  have d1 := blk_cell hb3 (i := 1) rfl
  have d2 := blk_cell hb3 (i := 2) rfl
  clear hE3 hb3
  go_wp2_with fail
  refine (HLE.out _ HX3.out).mono ?_
  rintro e w4 ⟨v4, rfl, ho4, hE4⟩
  obtain ⟨a4, c4, rfl, _⟩ := id ho4.row
  have HBO := Lib.hid (show Bools w4 (.slice a4 np c4) L from by
    have h := ho4.reads
    unfold Bools
    rw [HLL.out]
    exact h)
  have HX4 := Lib.hid (HX3.out.trans hE4)
  have HY4 := Lib.hid (HY3.out.trans hE4)
  have hb4 := blk_ext HB.out HY4.out
  have d0 := blk_cell hb4 (i := 0) rfl
  have d1 := blk_cell hb4 (i := 1) rfl
  have d2 := blk_cell hb4 (i := 2) rfl
  have d3 := blk_cell hb4 (i := 3) rfl
  clear hE4 hb4 ho4
  go_wp2_with fail
  refine (HCL.out _ HX4.out).mono ?_
  rintro e w5 ⟨rfl, hE5⟩
  have HX5 := Lib.hid (HX4.out.trans hE5)
  have HY5 := Lib.hid (HY4.out.trans hE5)
  have HBO5 := Lib.hid (HBO.out.ext hE5)
  clear hE5 d0 d1 d2 d3
  have HO0 := Lib.hid (show w5.ownsRow w5.heap.size 59 2 (.slice none 0 0) (begL fi L t 0).length ((begL fi L t 0).flatMap spc) from World.ownsRow_nil _ _ _ _)
  have HBL := Lib.hid fun i => begL_len fi L t i
  go_wp2_with fail
  go_loopg [35, 9] N (fun g x y wr => ∃ (i : Nat) (ab : Option Addr) (cb : Nat), g + i = N ∧ x = .int .i64 (i : Int) ∧ y = .slice ab (begL fi L t i).length cb ∧ Ext w5 wr ∧ wr.ownsRow w5.heap.size 59 2 (.slice ab (begL fi L t i).length cb) (begL fi L t i).length ((begL fi L t i).flatMap spc))
  case atStart => exact ⟨0, none, 0, by omega, by go_num, rfl, Ext.refl _, HO0.out⟩
  case round =>
    obtain ⟨i, ab, cb, hgi, rfl, rfl, hE, hO⟩ := hrel
    have HGI := Lib.hid hgi
    have HEE := Lib.hid hE
    have HOO := Lib.hid hO
    clear HO0
    by_cases hi : i < N
    · have hbr := blk_ext HB.out (HY5.out.trans hE)
      have d2 := blk_cell hbr (i := 2) rfl
      have d3 := blk_cell hbr (i := 3) rfl
      have HTC := Lib.hid (HTR.out _ i wr (HX5.out.trans hE) (HBO5.out.ext hE) hi)
      have hbl := HBL.out i
      have HYS := Lib.hid fun h => begL_yes (fi := fi) (L := L) (t := t) (i := i) h
      have HNO := Lib.hid fun h => begL_no (fi := fi) (L := L) (t := t) (i := i) h
      have hiI : (i : Int) < (N : Int) := by omega
      have hi0 : (0 : Int) ≤ (i : Int) := by omega
      obtain ⟨q, hq⟩ : ∃ q, (tvT L i t 0).head?.getD false = q := ⟨_, rfl⟩
      have HQ := Lib.hid (show (tvT L i t 0)[0]? = some q from by
        have h1 := HTL.out L i
        cases hv : tvT L i t 0 with
        | nil => rw [hv] at h1; simp at h1
        | cons b r => rw [hv] at hq; simp at hq; subst hq; rfl)
      rw [hq] at HYS HNO
      generalize tvT L i t 0 = tv at *
      obtain ⟨nb, hnb⟩ : ∃ x, (begL fi L t i).length = x := ⟨_, rfl⟩
      rw [hnb] at HOO hbl ⊢
      have HNB := Lib.hid hnb
      obtain ⟨nl, hnl⟩ : ∃ x, t.flat.length = x := ⟨_, rfl⟩
      rw [hnl] at HTC hfl hf60
      clear hgi hE hO hbr hq hnb hnl
      go_wp2_with fail
      refine HTC.out.mono ?_
      rintro e w6 ⟨D, rfl, ho6, hE6⟩
      have c0 := own_bool ho6 HQ.out
      have HE6 := Lib.hid (HEE.out.trans hE6)
      have HO6 := Lib.hid (own_ext HOO.out hE6)
      clear ho6 hE6 d2 d3
      cases q
      · have HO7 := Lib.hid fun (o : Obj) => own_ext HO6.out (ext_al (Ext.refl w6) o)
        have hs6 := HE6.out.size
        go_wp2_with (at_builtin; go_must (refine wpl_append rfl rfl Tryz.slSpots w5.heap.size rfl (HO7.out _) rfl (Row.newK _ _ 2 _ _ rfl rfl) (by intro u hu; simp only [List.mem_cons, List.not_mem_nil, or_false] at hu; rcases hu with rfl | rfl <;> rfl) (by unfold maxLen; omega) (by omega) (by simp; omega) ?_))
        intro v8 w8 hown8 hg8 hb8 _
        obtain ⟨a8, c8, rfl, _⟩ := id hown8.row
        have hA8 := ext_al (Ext.refl w6) (Obj.cells #[.int .i64 fi, .int .i64 (i : Int)] 59)
        have HE8 := Lib.hid (show Ext w5 w8 from Below.grown (HE6.out.trans hA8) hg8 (HE6.out.trans hA8).size (fun b hb => ((HO7.out (Obj.cells #[] 0)).lt b hb).1))
        have hbe := HYS.out (by first | rfl | trivial)
        have hbl2 : (begL fi L t (i + 1)).length = nb + 1 := by rw [hbe, List.length_append, HNB.out]; rfl
        have HO8 := Lib.hid (show w8.ownsRow w5.heap.size 59 2 (.slice a8 (nb + 1) c8) (begL fi L t (i + 1)).length ((begL fi L t (i + 1)).flatMap spc) from by
          have e1 : (begL fi L t (i + 1)).flatMap spc = (begL fi L t i).flatMap spc ++ [.int .i64 fi, .int .i64 (i : Int)] := by rw [hbe]; simp [spc]
          rw [hbl2, e1]
          exact hown8)
        have HB2 := Lib.hid hbl2
        clear hown8 hg8 hb8 hA8 hbe hbl2 c0
        go_wp2_with fail
        go_roundg (gk - 1)
        case measure => have := HGI.out; omega
        case rel => exact ⟨i + 1, a8, c8, by have := HGI.out; omega, by go_num, by rw [HB2.out], HE8.out, by rw [HB2.out]; rw [HB2.out] at HO8; exact HO8.out⟩
      · have hbe := HNO.out (by first | rfl | trivial)
        have HBE := Lib.hid hbe
        clear hbe
        go_wp2_with fail
        go_roundg (gk - 1)
        case measure => have := HGI.out; omega
        case rel => exact ⟨i + 1, ab, cb, by have := HGI.out; omega, by go_num, by rw [HBE.out, HNB.out], HE6.out, by rw [HBE.out, HNB.out]; exact HO6.out⟩
    · obtain rfl : i = N := by have := HGI.out; omega
      have hiI : ¬ (i : Int) < (i : Int) := by omega
      have hs5 := HX5.out.size
      clear hgi hE hO
      go_wp2
      go_ret2
      exact ⟨_, rfl, own_down HOO.out hs5, HX5.out.trans HEE.out⟩
end Go.Proofs.YtciihiiacbnimaaGreatDoor

namespace Go.Proofs.YtciihiiacbnimaaGreatDoor
open Go.RowKit
set_option maxRecDepth 100000 in
set_option maxHeartbeats 8000000 in
theorem spot_ok (vv rv pv fv : Value) (m : Md) (P : List Tm) (t : Tm) (s cl : Int) (w : World) (h : IsTask w vv rv pv fv m P t) (ht : Tab w) (hk : TkOk m P t) (hs0 : 0 ≤ s) (hs1 : s < countL m.vars) (hc0 : 0 ≤ cl) :
    Calls Tryz.prog 41 #[.agg #[vv, rv, pv, fv], .agg #[.int .i64 s, .int .i64 cl]] w fun e w' => e = .returned (.bool (decide (cl < ((2 ^ cntA t.flat : Nat) : Int)))) ∧ Ext w w' := by
  have HCO := Lib.hid fun wx (hx : Ext w wx) => count_any vv rv m wx (h.md.ext hx) (ht.ext hx) hk.ok
  have HCL := Lib.hid fun wx (hx : Ext w wx) => claims_n vv rv pv fv m P t wx (h.ext hx) (ht.ext hx) hk
  obtain ⟨av, cv, ar, cr, ap, cp, af, nf, cf, rfl, rfl, rfl, rfl⟩ := h.val
  obtain ⟨N, hN⟩ : ∃ x, 2 ^ cntA t.flat = x := ⟨_, rfl⟩
  rw [hN] at HCL ⊢
  obtain ⟨C, hC⟩ : ∃ x, countL m.vars = x := ⟨_, rfl⟩
  rw [hC] at HCO hs1
  generalize m.vars.length = nv at *
  generalize m.rules.length = nr at *
  generalize P.length = np at *
  clear h ht hk hN hC
  have hb := blk_new w (Obj.cells #[.slice av nv cv, .slice ar nr cr, .slice ap np cp, .slice af nf cf] 35)
  have hx := ext_al (Ext.refl (w.alloc (Obj.cells #[.slice av nv cv, .slice ar nr cr, .slice ap np cp, .slice af nf cf] 35))) (Obj.cells #[.int .i64 s, .int .i64 cl] 59)
  have hb2 := blk_new (w.alloc (Obj.cells #[.slice av nv cv, .slice ar nr cr, .slice ap np cp, .slice af nf cf] 35)) (Obj.cells #[.int .i64 s, .int .i64 cl] 59)
  rw [World.size_alloc] at hb2
  have HE := Lib.hid ((ext_al (Ext.refl w) (Obj.cells #[.slice av nv cv, .slice ar nr cr, .slice ap np cp, .slice af nf cf] 35)).trans hx)
  have HB := Lib.hid (blk_ext hb hx)
  have HS := Lib.hid hb2
  have d0 := blk_cell (blk_ext hb hx) (i := 0) rfl
  have d1 := blk_cell (blk_ext hb hx) (i := 1) rfl
  clear hb hx hb2
  go_enter Tryz.func41, Tryz.ntmps41
  go_wp2_with fail
  generalize (w.alloc (Obj.cells #[.slice av nv cv, .slice ar nr cr, .slice ap np cp, .slice af nf cf] 35)).alloc (Obj.cells #[.int .i64 s, .int .i64 cl] 59) = W1 at *
  refine (HCO.out _ HE.out).mono ?_
  rintro e w2 ⟨rfl, hE2⟩
  have HX2 := Lib.hid (HE.out.trans hE2)
  have hb2 := blk_ext HB.out hE2
  have hs2 := blk_ext HS.out hE2
  have d0 := blk_cell hb2 (i := 0) rfl
  have d1 := blk_cell hb2 (i := 1) rfl
  have d2 := blk_cell hb2 (i := 2) rfl
  have d3 := blk_cell hb2 (i := 3) rfl
  have s0 := blk_cell hs2 (i := 0) rfl
  have s1 := blk_cell hs2 (i := 1) rfl
  have HS2 := Lib.hid hs2
  have k1 : decide (0 ≤ s) = true := decide_eq_true hs0
  have k2 : decide (s < C) = true := decide_eq_true hs1
  have k3 : decide (0 ≤ cl) = true := decide_eq_true hc0
  clear hE2 hb2 hs2
  go_upto_region 2 with fail
  go_region_law (first
    | (go_simp
       go_at_call 36
       refine (HCL.out _ (HX2.out.trans (Below.drew (Ext.refl _)))).mono ?_
       rintro e w5 ⟨rfl, hE5⟩
       have s05 := blk_cell (blk_ext HS2.out (Ext.trans (Below.drew (Ext.refl _)) hE5)) (i := 0) rfl
       have s15 := blk_cell (blk_ext HS2.out (Ext.trans (Below.drew (Ext.refl _)) hE5)) (i := 1) rfl
       have HE5 := Lib.hid (HX2.out.trans (Ext.trans (Below.drew (Ext.refl _)) hE5))
       clear hE5))
  all_goals
    go_wp2
    go_ret
    exact ⟨rfl, HE5.out⟩
def behN (F : Int → Nat → Bool) (n : Int) (i : Nat) : List (Int × Int) := ((List.range i).filter (F n)).map fun c : Nat => (n, (c : Int))
theorem behN_yes {F : Int → Nat → Bool} {n : Int} {i : Nat} (h : F n i = true) : behN F n (i + 1) = behN F n i ++ [(n, (i : Int))] := by
  unfold behN
  rw [List.range_succ, List.filter_append, List.map_append]
  simp [h]
theorem behN_no {F : Int → Nat → Bool} {n : Int} {i : Nat} (h : F n i = false) : behN F n (i + 1) = behN F n i := by
  unfold behN
  rw [List.range_succ, List.filter_append, List.map_append]
  simp [h]
theorem behN_len (F : Int → Nat → Bool) (n : Int) (i : Nat) : (behN F n i).length ≤ i := by
  unfold behN
  rw [List.length_map]
  exact Nat.le_trans (List.length_filter_le _ _) (by simp)
def behL (F : Int → Nat → Bool) (N : Nat) (ns : List Int) : List (Int × Int) := ns.flatMap fun n => behN F n N
theorem behL_succ {F : Int → Nat → Bool} {N : Nat} {ns : List Int} {i : Nat} (hi : i < ns.length) : behL F N (ns.take (i + 1)) = behL F N (ns.take i) ++ behN F ns[i] N := by
  unfold behL
  rw [List.take_succ_eq_append_getElem hi, List.flatMap_append]
  simp
theorem behL_len (F : Int → Nat → Bool) (N : Nat) : ∀ (ns : List Int), (behL F N ns).length ≤ ns.length * N
  | [] => by simp [behL]
  | n :: ns => by
    have h1 := behL_len F N ns
    have h2 := behN_len F n N
    unfold behL at *
    rw [List.flatMap_cons, List.length_append, List.length_cons, Nat.add_mul]
    omega
def folX (m : Md) (P : List Tm) (t : Tm) (s : Int) (cl : Nat) (n : Int) (c : Nat) : Bool :=
  folB t.flat (t.ends 0) (tvT (letS P (valsL m.vars s)) cl t 0) (tvT (letS P (valsL m.vars n)) c t 0) t.flat.length
set_option maxRecDepth 100000 in
set_option maxHeartbeats 16000000 in
theorem pbehind_any (vv rv pv fv : Value) (m : Md) (P : List Tm) (t : Tm) (s : Int) (cl : Nat) (w : World) (h : IsTask w vv rv pv fv m P t) (ht : Tab w) (hk : TkOk m P t) (hs0 : 0 ≤ s) (hs1 : s < countL m.vars) (hc0 : cl < 2 ^ cntA t.flat) :
    Calls Tryz.prog 20 #[.agg #[vv, rv, pv, fv], .agg #[.int .i64 s, .int .i64 (cl : Int)]] w fun e w' => ∃ v, e = .returned (.tuple #[v, .int .i64 0]) ∧
      w'.ownsRow w.heap.size 59 2 v (behL (folX m P t s cl) (2 ^ cntA t.flat) (nextL m s)).length ((behL (folX m P t s cl) (2 ^ cntA t.flat) (nextL m s)).flatMap spc) ∧ Ext w w' := by
  have HCK := Lib.hid fun wx (hx : Ext w wx) => pcheck_any vv rv pv fv m P t wx (h.ext hx) (ht.ext hx) hk
  have HCL := Lib.hid fun wx (hx : Ext w wx) => claims_n vv rv pv fv m P t wx (h.ext hx) (ht.ext hx) hk
  have HSP := Lib.hid fun wx (hx : Ext w wx) => (show Calls Tryz.prog 41 #[.agg #[vv, rv, pv, fv], .agg #[.int .i64 s, .int .i64 (cl : Int)]] wx fun e w' => e = .returned (.bool true) ∧ Ext wx w' from by
    have h1 := spot_ok vv rv pv fv m P t s (cl : Int) wx (h.ext hx) (ht.ext hx) hk hs0 hs1 (by omega)
    rw [decide_eq_true (show (cl : Int) < ((2 ^ cntA t.flat : Nat) : Int) by omega)] at h1
    exact h1)
  have HLE := Lib.hid fun (n : Int) wx (hx : Ext w wx) (hn : 0 ≤ n ∧ n < countL m.vars) => sletter_any vv rv pv m P n wx (h.md.ext hx) (ht.ext hx) hk.ok (h.pr.ext hx) hk.pk hn.1 hn.2
  have HNX := Lib.hid fun wx (hx : Ext w wx) => nextE_any vv rv m s wx (h.md.ext hx) (ht.ext hx) hk.ok hk.v0 hs0 hs1
  have HNI := Lib.hid fun n (hn : n ∈ nextL m s) => (show 0 ≤ n ∧ n < countL m.vars from NextP.in hk.ok.toPre hs0 hs1 (((nextL_ok m s).mem n).1 hn))
  have HLL := Lib.hid fun n => letS_len P (valsL m.vars n)
  have HFO := Lib.hid fun (v1 v2 : Value) (n : Int) (c : Nat) wx (hx : Ext w wx) (h1 : Bools wx v1 (letS P (valsL m.vars s))) (h2 : Bools wx v2 (letS P (valsL m.vars n))) (hc : c < 2 ^ cntA t.flat) => (show Calls Tryz.prog 42 #[fv, v1, .int .i64 (cl : Int), v2, .int .i64 (c : Int)] wx fun e w' => e = .returned (.tuple #[.bool (folX m P t s cl n c), .int .i64 0]) ∧ Ext wx w' from
    follows_any fv t.flat t v1 v2 (letS P (valsL m.vars s)) (letS P (valsL m.vars n)) cl c wx (h.fo.ext hx) (ht.ext hx) (by rw [letS_len]; exact hk.ff) h1 h2 (by rw [letS_len, letS_len]) hc0 hc)
  have hp2 : 2 ^ cntA t.flat ≤ 64 := by
    have := Nat.pow_le_pow_right (n := 2) (by omega) hk.ff.cnt
    simpa using this
  have hn1 := (nextL_len m s).1
  have hn2 : (nextL m s).length ≤ 12 := by have := (nextL_len m s).2; have := hk.ok.twelve; omega
  have hp6 := hk.pk.six
  obtain ⟨av, cv, ar, cr, ap, cp, af, nf, cf, rfl, rfl, rfl, rfl⟩ := h.val
  generalize folX m P t s cl = F at *
  generalize nextL m s = ns at *
  obtain ⟨LT, hLT⟩ : ∃ LT : Int → List Bool, (fun n => letS P (valsL m.vars n)) = LT := ⟨_, rfl⟩
  have hLTa : ∀ n, letS P (valsL m.vars n) = LT n := fun n => by rw [← hLT]
  simp only [hLTa] at HLE HFO HLL
  obtain ⟨C, hC⟩ : ∃ x, countL m.vars = x := ⟨_, rfl⟩
  rw [hC] at HLE HNI hs1
  obtain ⟨N, hN⟩ : ∃ x, 2 ^ cntA t.flat = x := ⟨_, rfl⟩
  rw [hN] at HCL HFO hp2 hc0 ⊢
  clear h ht hk hLT hLTa hC hN
  generalize m.vars.length = nv at *
  generalize m.rules.length = nr at *
  generalize P.length = np at *
  have hb := blk_new w (Obj.cells #[.slice av nv cv, .slice ar nr cr, .slice ap np cp, .slice af nf cf] 35)
  have hx := ext_al (Ext.refl (w.alloc (Obj.cells #[.slice av nv cv, .slice ar nr cr, .slice ap np cp, .slice af nf cf] 35))) (Obj.cells #[.int .i64 s, .int .i64 (cl : Int)] 59)
  have hb2 := blk_new (w.alloc (Obj.cells #[.slice av nv cv, .slice ar nr cr, .slice ap np cp, .slice af nf cf] 35)) (Obj.cells #[.int .i64 s, .int .i64 (cl : Int)] 59)
  rw [World.size_alloc] at hb2
  have HE := Lib.hid ((ext_al (Ext.refl w) (Obj.cells #[.slice av nv cv, .slice ar nr cr, .slice ap np cp, .slice af nf cf] 35)).trans hx)
  have HB := Lib.hid (blk_ext hb hx)
  have HS := Lib.hid hb2
  have d0 := blk_cell HB.out (i := 0) rfl
  have d1 := blk_cell HB.out (i := 1) rfl
  have d2 := blk_cell HB.out (i := 2) rfl
  have d3 := blk_cell HB.out (i := 3) rfl
  clear hb hx hb2
  go_enter Tryz.func20, Tryz.ntmps20
  go_wp2_with fail
  generalize (w.alloc (Obj.cells #[.slice av nv cv, .slice ar nr cr, .slice ap np cp, .slice af nf cf] 35)).alloc (Obj.cells #[.int .i64 s, .int .i64 (cl : Int)] 59) = W1 at *
  refine (HCK.out _ HE.out).mono ?_
  rintro e w2 ⟨rfl, hE2⟩
  have HY2 := Lib.hid hE2
  have d0 := blk_cell (blk_ext HB.out hE2) (i := 0) rfl
  have d1 := blk_cell (blk_ext HB.out hE2) (i := 1) rfl
  have d2 := blk_cell (blk_ext HB.out hE2) (i := 2) rfl
  have d3 := blk_cell (blk_ext HB.out hE2) (i := 3) rfl
  have s0 := blk_cell (blk_ext HS.out hE2) (i := 0) rfl
  have s1 := blk_cell (blk_ext HS.out hE2) (i := 1) rfl
  clear hE2
  go_wp2_with fail
  refine (HSP.out _ (HE.out.trans HY2.out)).mono ?_
  rintro e w3 ⟨rfl, hE3⟩
  have HY3 := Lib.hid (HY2.out.trans hE3)
  have d0 := blk_cell (blk_ext HB.out HY3.out) (i := 0) rfl
  have d1 := blk_cell (blk_ext HB.out HY3.out) (i := 1) rfl
  have d2 := blk_cell (blk_ext HB.out HY3.out) (i := 2) rfl
  have s0 := blk_cell (blk_ext HS.out HY3.out) (i := 0) rfl
  clear hE3 d3 s1
  go_wp2_with fail
  refine (HLE.out s _ (HE.out.trans HY3.out) ⟨hs0, hs1⟩).mono ?_
  rintro e w4 ⟨v4, rfl, ho4, hE4⟩
  obtain ⟨a4, c4, rfl, _⟩ := id ho4.row
  have HBO := Lib.hid (show Bools w4 (.slice a4 np c4) (LT s) from by
    have h := ho4.reads
    unfold Bools
    rw [HLL.out]
    exact h)
  have HY4 := Lib.hid (HY3.out.trans hE4)
  have d0 := blk_cell (blk_ext HB.out HY4.out) (i := 0) rfl
  have d1 := blk_cell (blk_ext HB.out HY4.out) (i := 1) rfl
  have s0 := blk_cell (blk_ext HS.out HY4.out) (i := 0) rfl
  clear hE4 ho4 d2
  go_wp2_with fail
  refine (HNX.out _ (HE.out.trans HY4.out)).mono ?_
  rintro e w5 ⟨v5, rfl, ho5, hE5⟩
  obtain ⟨Q5, c5, rfl⟩ := own_shape ho5 hn1
  have HY5 := Lib.hid (HY4.out.trans hE5)
  have HBO5 := Lib.hid (HBO.out.ext hE5)
  have HO5 := Lib.hid ho5
  clear hE5 ho5 d0 d1 s0 HBO
  have HO0 := Lib.hid (show w5.ownsRow w5.heap.size 59 2 (.slice none 0 0) (behL F N (ns.take 0)).length ((behL F N (ns.take 0)).flatMap spc) from World.ownsRow_nil _ _ _ _)
  have HBL := Lib.hid fun i => behL_len F N (ns.take i)
  have HBN := Lib.hid fun n i => behN_len F n i
  go_wp2_with fail
  go_loopg [48, 11] ns.length (fun g x y wr => ∃ (i : Nat) (ab : Option Addr) (cb : Nat), g + i = ns.length ∧ x = .int .i64 (i : Int) ∧ y = .slice ab (behL F N (ns.take i)).length cb ∧ Ext w5 wr ∧ wr.ownsRow w5.heap.size 59 2 (.slice ab (behL F N (ns.take i)).length cb) (behL F N (ns.take i)).length ((behL F N (ns.take i)).flatMap spc))
  case atStart => exact ⟨0, none, 0, by omega, by go_num, rfl, Ext.refl _, HO0.out⟩
  case round =>
    obtain ⟨i, ab, cb, hgi, rfl, rfl, hE, hO⟩ := hrel
    have HGI := Lib.hid hgi
    have HEE := Lib.hid hE
    have HOO := Lib.hid hO
    clear HO0
    by_cases hi : i < ns.length
    · have hbr := blk_ext HB.out (HY5.out.trans hE)
      have d0 := blk_cell hbr (i := 0) rfl
      have d1 := blk_cell hbr (i := 1) rfl
      have d2 := blk_cell hbr (i := 2) rfl
      have cn := own_cellAt (own_ext HO5.out hE) (i := i) (by simpa using hi)
      rw [List.getElem_map] at cn
      have hnb := HNI.out ns[i] (by simp)
      have HLN := Lib.hid (HLE.out ns[i] wr (HE.out.trans (HY5.out.trans hE)) hnb)
      have HSC := Lib.hid (behL_succ (F := F) (N := N) hi)
      have hbl := HBL.out i
      have htk : (ns.take i).length ≤ 12 := by rw [List.length_take]; omega
      have hbl2 : (behL F N (ns.take i)).length ≤ 12 * 64 := Nat.le_trans hbl (Nat.mul_le_mul htk hp2)
      have hiI : (i : Int) < (ns.length : Int) := by omega
      have hi0 : (0 : Int) ≤ (i : Int) := by omega
      generalize ns[i] = n at *
      generalize behL F N (ns.take i) = X at *
      obtain ⟨nX, hnX⟩ : ∃ x, X.length = x := ⟨_, rfl⟩
      rw [hnX] at HOO hbl2 ⊢
      have HNX2 := Lib.hid hnX
      clear hgi hE hO hbr hnb hbl htk hnX
      go_wp2_with fail
      refine HLN.out.mono ?_
      rintro e w6 ⟨v6, rfl, ho6, hE6⟩
      obtain ⟨a6, c6, rfl, _⟩ := id ho6.row
      have HY6 := Lib.hid (HEE.out.trans hE6)
      have hbr := blk_ext HB.out (HY5.out.trans HY6.out)
      have d0 := blk_cell hbr (i := 0) rfl
      have d1 := blk_cell hbr (i := 1) rfl
      have d2 := blk_cell hbr (i := 2) rfl
      have d3 := blk_cell hbr (i := 3) rfl
      have HO6 := Lib.hid ho6
      have HLO6 := Lib.hid (own_ext HOO.out hE6)
      have HSEP := Lib.hid (show ∀ b, (Value.slice ab nX cb).ownBlock = some b → (Value.slice a6 np c6).ownBlock ≠ some b from fun b h1 h2 => by
        have := (HOO.out.lt b h1).2
        have := (ho6.lt b h2).1
        omega)
      clear hbr ho6 hE6 cn
      go_wp2_with fail
      refine (HCL.out _ (HE.out.trans (HY5.out.trans HY6.out))).mono ?_
      rintro e w7 ⟨rfl, hE7⟩
      have HY7 := Lib.hid (HY6.out.trans hE7)
      have HO7 := Lib.hid (own_ext HO6.out hE7)
      have HLO7 := Lib.hid (own_ext HLO6.out hE7)
      obtain ⟨B6, hB6⟩ : ∃ x, wr.heap.size = x := ⟨_, rfl⟩
      rw [hB6] at HO7
      clear hE7 d0 d1 d2 d3 hB6
      go_wp2_with fail
      obtain ⟨wo, rfl⟩ : ∃ wo : World, wo = wr := ⟨_, rfl⟩
      obtain ⟨G0, rfl⟩ : ∃ G0 : Nat, G0 = gk := ⟨_, rfl⟩
      go_loopg [63, 11] N (fun g x y wq => ∃ (c : Nat) (ab' : Option Addr) (cb' : Nat), g + c = N ∧ x = .int .i64 (c : Int) ∧ y = .slice ab' (nX + (behN F n c).length) cb' ∧ Ext w5 wq ∧ wq.ownsRow w5.heap.size 59 2 (.slice ab' (nX + (behN F n c).length) cb') (nX + (behN F n c).length) ((X ++ behN F n c).flatMap spc) ∧ (∀ b, (Value.slice ab' (nX + (behN F n c).length) cb').ownBlock = some b → (Value.slice a6 np c6).ownBlock ≠ some b) ∧ wq.ownsRow B6 4 1 (.slice a6 np c6) np ((LT n).map .bool))
      case atStart => exact ⟨0, ab, cb, by omega, by go_num, rfl, HY7.out, by simpa [behN] using HLO7.out, HSEP.out, HO7.out⟩
      case round =>
        obtain ⟨c, ab', cb', hgc, rfl, rfl, hE, hO, hSep, hL⟩ := hrel
        have HGC := Lib.hid hgc
        have HEQ := Lib.hid hE
        have HOQ := Lib.hid hO
        have HSQ := Lib.hid hSep
        have HLQ := Lib.hid hL
        by_cases hc : c < N
        · have hbr := blk_ext HB.out (HY5.out.trans hE)
          have hbs := blk_ext HS.out (HY5.out.trans hE)
          have d2 := blk_cell hbr (i := 2) rfl
          have d3 := blk_cell hbr (i := 3) rfl
          have s1 := blk_cell hbs (i := 1) rfl
          have HFC := Lib.hid (HFO.out (.slice a4 np c4) (.slice a6 np c6) n c wr (HE.out.trans (HY5.out.trans hE)) (HBO5.out.ext hE) (by
            have h := hL.reads
            unfold Bools
            rw [HLL.out]
            exact h) hc)
          have hbn := HBN.out n c
          have HYS := Lib.hid fun h => behN_yes (F := F) (n := n) (i := c) h
          have HNO := Lib.hid fun h => behN_no (F := F) (n := n) (i := c) h
          obtain ⟨q, hq⟩ : ∃ q, F n c = q := ⟨_, rfl⟩
          rw [hq] at HFC HYS HNO
          have hcI : (c : Int) < (N : Int) := by omega
          have hc0' : (0 : Int) ≤ (c : Int) := by omega
          obtain ⟨nB, hnB⟩ : ∃ x, (behN F n c).length = x := ⟨_, rfl⟩
          rw [hnB] at HOQ HSQ hbn ⊢
          have HNB := Lib.hid hnB
          clear hgc hE hO hSep hL hbr hbs hq hnB
          go_wp2_with fail
          refine HFC.out.mono ?_
          rintro e w8 ⟨rfl, hE8⟩
          have HE8 := Lib.hid (HEQ.out.trans hE8)
          have HO8 := Lib.hid (own_ext HOQ.out hE8)
          have HL8 := Lib.hid (own_ext HLQ.out hE8)
          clear hE8 d2 d3 s1
          cases q
          · have HBE := Lib.hid (HNO.out (by first | rfl | trivial))
            go_wp2_with fail
            go_roundg (gk - 1)
            case measure => have := HGC.out; omega
            case rel => exact ⟨c + 1, ab', cb', by have := HGC.out; omega, by go_num, by rw [HBE.out, HNB.out], HE8.out, by rw [HBE.out, HNB.out]; exact HO8.out, by rw [HBE.out, HNB.out]; exact HSQ.out, HL8.out⟩
          · have HO9 := Lib.hid fun (o : Obj) => own_ext HO8.out (ext_al (Ext.refl w8) o)
            have hs8 := HE8.out.size
            go_wp2_with (at_builtin; go_must (refine wpl_append rfl rfl Tryz.slSpots w5.heap.size rfl (HO9.out _) rfl (Row.newK _ _ 2 _ _ rfl rfl) (by intro u hu; simp only [List.mem_cons, List.not_mem_nil, or_false] at hu; rcases hu with rfl | rfl <;> rfl) (by unfold maxLen; omega) (by omega) (by simp; omega) ?_))
            intro vA wA hownA hgA hbA _
            obtain ⟨aA, cA, rfl, _⟩ := id hownA.row
            have hAA := ext_al (Ext.refl w8) (Obj.cells #[.int .i64 n, .int .i64 (c : Int)] 59)
            have HEA := Lib.hid (show Ext w5 wA from Below.grown (HE8.out.trans hAA) hgA (HE8.out.trans hAA).size (fun b hb => ((HO9.out (Obj.cells #[] 0)).lt b hb).1))
            have hbe := HYS.out (by first | rfl | trivial)
            have hbl3 : (behN F n (c + 1)).length = nB + 1 := by rw [hbe, List.length_append, HNB.out]; rfl
            have HOA := Lib.hid (show wA.ownsRow w5.heap.size 59 2 (.slice aA (nX + nB + 1) cA) (nX + nB + 1) ((X ++ behN F n (c + 1)).flatMap spc) from by
              have e1 : (X ++ behN F n (c + 1)).flatMap spc = X.flatMap spc ++ ((behN F n c).flatMap spc ++ [.int .i64 n, .int .i64 (c : Int)]) := by rw [hbe]; simp [spc]
              rw [e1]
              exact hownA)
            have HLA := Lib.hid (own_grown (own_ext HL8.out hAA) hgA (by
              cases hv : (Value.slice a6 np c6).ownBlock with
              | none => exact .inl rfl
              | some b => exact .inr fun e => HSQ.out b e.symm hv))
            have HSA := Lib.hid (show ∀ b, (Value.slice aA (nX + nB + 1) cA).ownBlock = some b → (Value.slice a6 np c6).ownBlock ≠ some b from fun b h1 h2 => by
              rcases hbA with h | h
              · rw [h] at h1; exact HSQ.out b h1 h2
              · rw [h] at h1
                injection h1 with h1
                have := (HL8.out.lt b h2).2
                first | omega | (simp at h1; omega))
            have HB3 := Lib.hid hbl3
            clear hownA hgA hbA hAA hbe hbl3
            go_wp2_with fail
            go_roundg (gk - 1)
            case measure => have := HGC.out; omega
            case rel => exact ⟨c + 1, aA, cA, by have := HGC.out; omega, by go_num, by rw [HB3.out]; rfl, HEA.out, by rw [HB3.out]; exact HOA.out, by rw [HB3.out]; exact HSA.out, HLA.out⟩
        · have hcn : c = N := by have := HGC.out; omega
          have hcI : ¬ (c : Int) < (N : Int) := by omega
          have hlen : (behL F N (ns.take (i + 1))).length = nX + (behN F n c).length := by rw [HSC.out, List.length_append, HNX2.out, hcn]
          have HFL := Lib.hid hlen
          have HOF := Lib.hid (show wr.ownsRow w5.heap.size 59 2 (.slice ab' (nX + (behN F n c).length) cb') (nX + (behN F n c).length) ((behL F N (ns.take (i + 1))).flatMap spc) from by
            rw [HSC.out, ← hcn]
            exact hO)
          clear hgc hE hO hSep hL hcn hlen
          go_wp2_with fail
          go_roundg (G0 - 1)
          case measure => have := HGI.out; omega
          case rel => exact ⟨i + 1, ab', cb', by have := HGI.out; omega, by go_num, by rw [HFL.out], HEQ.out, by rw [HFL.out]; exact HOF.out⟩
    · have hin : i = ns.length := by have := HGI.out; omega
      have hiI : ¬ (i : Int) < (ns.length : Int) := by omega
      have HOF := Lib.hid (show wr.ownsRow w5.heap.size 59 2 (.slice ab (behL F N (ns.take i)).length cb) (behL F N ns).length ((behL F N ns).flatMap spc) from by
        have h := hO
        rw [hin, List.take_length] at h ⊢
        exact h)
      have HEF := Lib.hid (HE.out.trans (HY5.out.trans hE))
      have hs5 := (HE.out.trans HY5.out).size
      clear hgi hE hO hin
      go_wp2
      go_ret2
      exact ⟨_, rfl, own_down HOF.out hs5, HEF.out⟩
end Go.Proofs.YtciihiiacbnimaaGreatDoor

namespace Go.Proofs.YtciihiiacbnimaaGreatDoor
open Go.RowKit
set_option maxHeartbeats 4000000 in
theorem kpicked_any (n many : Int) (w : World) (h1 : -9223372036854775808 ≤ n) (h2 : n ≤ 9223372036854775807) (h3 : 0 < many) (h4 : many ≤ 1000000) :
    Calls Tryz.prog 15 #[.int .i64 n, .int .i64 many] w fun e w' => e = .returned (.int .i64 (pk n many)) ∧ w = w' := by
  have HK := Lib.hid (picked_any n many w h1 h2 (by omega) (by omega))
  clear h1 h2 h3 h4
  go_enter Tryz.func15, Tryz.ntmps15
  go_wp2_with fail
  refine HK.out.mono ?_
  rintro e w' ⟨rfl, rfl⟩
  go_wp2
  go_ret
  exact ⟨rfl, rfl⟩
theorem d7_of {w : World} {g : Nat} {a b c d e f k : Value} {T : TypeId} (h : w.heap[g]? = some (.cells #[a, b, c, d, e, f, k] T (0, 0))) :
    w.cell? ⟨g, 0, none⟩ = some a ∧ w.cell? ⟨g, 1, none⟩ = some b ∧ w.cell? ⟨g, 2, none⟩ = some c ∧ w.cell? ⟨g, 3, none⟩ = some d ∧ w.cell? ⟨g, 4, none⟩ = some e ∧ w.cell? ⟨g, 5, none⟩ = some f ∧ w.cell? ⟨g, 6, none⟩ = some k :=
  ⟨blk_cell h rfl, blk_cell h rfl, blk_cell h rfl, blk_cell h rfl, blk_cell h rfl, blk_cell h rfl, blk_cell h rfl⟩
end Go.Proofs.YtciihiiacbnimaaGreatDoor
