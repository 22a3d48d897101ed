/- Several texts in one: PrC; PrB; WordP; SettleP; RowP; WordQ; Meets; LineP. No condition. -/
import Derived.Test.YtbmimdnpchldlaaGreatDoorKt12
import Derived.Test.YtbmimdnpchldlaaGreatDoorKt1
namespace Go.Proofs.YtbmimdnpchldlaaGreatDoor
open Go.RowKit

theorem forO_ok (raw : List Op2) (tempo : Nat) (h : tempo ≤ 6) : IsF (forO raw 3 tempo).flat 3 (forO raw 3 tempo) where
  ok := fT_ok raw 3 4 0 tempo
  flat := rfl
  small := by have := fT_small raw 3 4 tempo; unfold forO; omega
  fit := fT_fit raw 3 4 0 tempo
  cnt := by have := fT_cnt raw 3 4 0 tempo; unfold forO; omega
  p0 := by omega
  p6 := by omega
theorem forO_cnt (raw : List Op2) (tempo : Nat) : cntA (forO raw 3 tempo).flat ≤ tempo := by have := fT_cnt raw 3 4 0 tempo; unfold forO; omega
theorem task_ok (d : Dn) (raw : List Op2) (tempo : Nat) (h : tempo ≤ 6) : TkOk d.md propT (forO raw 3 tempo) :=
  ⟨d.drawn.ok, by rw [d.drawn.two]; omega, by rw [d.drawn.two]; exact propT_ok, forO_ok raw tempo h⟩

abbrev nilV : Value := .slice none 0 0
theorem blkR_ne {w : World} {R b k : Nat} {T : TypeId} {u : Value} (hR : w.heap[R]? = some (.cells #[nilV, nilV, nilV, nilV] T (0, 0))) (hc : w.cell? ⟨b, k, none⟩ = some u) (hu : u ≠ nilV) : b ≠ R := by
  intro e
  subst e
  simp only [World.cell?, hR] at hc
  match k, hc with
  | 0, hc => simp at hc; exact hu hc.symm
  | 1, hc => simp at hc; exact hu hc.symm
  | 2, hc => simp at hc; exact hu hc.symm
  | 3, hc => simp at hc; exact hu hc.symm
  | k + 4, hc => simp at hc
theorem reads_R {w w' : World} {R sz n : Nat} {T : TypeId} {v : Value} {xs : List Value} (h : Reads w sz v n xs) (hR : w.heap[R]? = some (.cells #[nilV, nilV, nilV, nilV] T (0, 0))) (hg : w.grownBy w' (some R)) (hx : xs = [] ∨ ∃ (j : Nat) (u : Value), xs[j]? = some u ∧ u ≠ nilV) : Reads w' sz v n xs := by
  refine Reads.grown h hg ?_
  rcases hx with rfl | ⟨j, u, hj, hu⟩
  · exact .inl rfl
  · refine .inr (.inr fun e => ?_)
    obtain ⟨a, c, rfl, hr⟩ := h
    obtain ⟨b, off, _, h2, h3⟩ := hr.lie
    obtain rfl := h2 (getElem?_pos hj)
    simp [Value.ownBlock] at e
    exact blkR_ne hR (h3 j u hj) hu e
theorem isT_R {w w' : World} {R : Nat} {T : TypeId} {v : Value} {t : Tm} (h : IsT w v t) (hR : w.heap[R]? = some (.cells #[nilV, nilV, nilV, nilV] T (0, 0))) (hg : w.grownBy w' (some R)) : IsT w' v t := by
  refine reads_R h hR hg (.inr ?_)
  have hp : 0 < t.flat.length := by rw [Tm.flat_len]; exact t.size_pos
  cases hf : t.flat with
  | nil => rw [hf] at hp; simp at hp
  | cons o r => exact ⟨0, .int .i64 o.1, by simp [opc], by simp⟩
theorem isT_ne {w : World} {v : Value} {t : Tm} (h : IsT w v t) : v ≠ nilV := by
  obtain ⟨a, c, rfl, _⟩ := h
  intro e
  simp only [Value.slice.injEq] at e
  have := t.size_pos
  rw [Tm.flat_len] at e
  omega
theorem EachL.R {α : Type} {sz : Nat} {E : World → α → List Value → Prop} {w w' : World} {R : Nat} {T : TypeId} {v : Value} {l : List α} (h : EachL sz E w v l) (hR : w.heap[R]? = some (.cells #[nilV, nilV, nilV, nilV] T (0, 0))) (hg : w.grownBy w' (some R)) (hE : ∀ x cs, E w x cs → E w' x cs ∧ ∃ u r, cs = u :: r ∧ u ≠ nilV) : EachL sz E w' v l := by
  obtain ⟨css, h1, h2, h3, h4⟩ := h
  refine ⟨css, h1, h2, reads_R h3 hR hg ?_, fun i cs x a b => (hE x cs (h4 i cs x a b)).1⟩
  cases css with
  | nil => exact .inl rfl
  | cons cs r =>
    cases l with
    | nil => simp at h1
    | cons x l =>
      obtain ⟨_, u, q, rfl, hu⟩ := hE x cs (h4 0 cs x rfl rfl)
      exact .inr ⟨0, u, by simp, hu⟩
theorem IsMd.R {w w' : World} {R : Nat} {T : TypeId} {vv rv : Value} {m : Md} (h : IsMd w vv rv m) (hR : w.heap[R]? = some (.cells #[nilV, nilV, nilV, nilV] T (0, 0))) (hg : w.grownBy w' (some R)) : IsMd w' vv rv m := by
  refine ⟨EachL.R h.vars hR hg fun x cs hx => ⟨hx, ?_⟩, EachL.R h.rules hR hg fun x cs hx => ?_⟩
  · have hx' : cs = vrc x := hx
    subst hx'
    exact ⟨_, _, rfl, by simp⟩
  · obtain ⟨g, t, rfl, hgT, hs⟩ := hx
    refine ⟨⟨g, t, rfl, isT_R hgT hR hg, EachL.R hs hR hg fun y ds hy => ?_⟩, g, [t], rfl, isT_ne hgT⟩
    obtain ⟨v, rfl, hv⟩ := hy
    exact ⟨⟨v, rfl, isT_R hv hR hg⟩, _, _, rfl, by simp⟩
theorem IsTms.R {w w' : World} {R : Nat} {T : TypeId} {v : Value} {l : List Tm} (h : IsTms w v l) (hR : w.heap[R]? = some (.cells #[nilV, nilV, nilV, nilV] T (0, 0))) (hg : w.grownBy w' (some R)) : IsTms w' v l :=
  EachL.R h hR hg fun x cs hx => by
    obtain ⟨v, rfl, hv⟩ := hx
    exact ⟨⟨v, rfl, isT_R hv hR hg⟩, _, _, rfl, isT_ne hv⟩
theorem grown_setP (w : World) (p : Addr) (u : Value) : w.grownBy (w.setCell p u) (some p.block) :=
  ⟨rfl, rfl, rfl, by simp, fun b _ hn => Below.heap_setCell _ _ _ _ (fun e => hn (by rw [e]))⟩
theorem set4 (a b c d u : Value) : (#[a, b, c, d].setIfInBounds 0 u) = #[u, b, c, d] ∧ (#[a, b, c, d].setIfInBounds 1 u) = #[a, u, c, d] ∧ (#[a, b, c, d].setIfInBounds 2 u) = #[a, b, u, d] ∧ (#[a, b, c, d].setIfInBounds 3 u) = #[a, b, c, u] := by simp

set_option maxRecDepth 100000 in
set_option maxHeartbeats 8000000 in
theorem task_any (pv fr : Value) (d : Dn) (raw : List Op2) (tempo : Nat) (w : World) (hpl : IsPlans w pv d.rules) (hd : DnI d) (hr : Ops w fr raw) (hR : RawF raw) (h6 : tempo ≤ 6) :
    Calls Tryz.prog 19 #[.agg (dnc d pv), fr, .int .i64 (tempo : Int)] w fun e w' => ∃ vv rv qv fv, e = .returned (.agg #[vv, rv, qv, fv]) ∧ IsTask w' vv rv qv fv d.md propT (forO raw 3 tempo) ∧ Ext w w' := by
  have HMO := Lib.hid fun wx (hx : Ext w wx) => model_any pv d wx (hpl.ext hx) hd
  have HFO := Lib.hid fun wx (hx : Ext w wx) => mkFormula fr raw 3 tempo wx (ops_ext hr hx) hR (by omega) (by omega) (by omega)
  obtain ⟨af, nf, cf, rfl⟩ : ∃ a n c, fr = .slice a n c := by
    obtain ⟨a, c, rfl, _⟩ := hr
    exact ⟨_, _, _, rfl⟩
  have hx0 := ext_al (Ext.refl w) (Obj.cells (dnc d pv) 25)
  have hb0 := blk_new w (Obj.cells (dnc d pv) 25)
  have hx1 := ext_al (Ext.refl (w.alloc (Obj.cells (dnc d pv) 25))) (Obj.cells #[.slice none 0 0, .slice none 0 0, .slice none 0 0, .slice none 0 0] 35)
  have hb1 := blk_new (w.alloc (Obj.cells (dnc d pv) 25)) (Obj.cells #[.slice none 0 0, .slice none 0 0, .slice none 0 0, .slice none 0 0] 35)
  rw [World.size_alloc] at hb1
  have HX1 := Lib.hid (hx0.trans hx1)
  have HR1 := Lib.hid hb1
  have hbd := blk_ext hb0 hx1
  simp only [dnc] at HMO HX1 HR1 hbd ⊢
  have e0 := blk_cell hbd (i := 0) rfl
  have e1 := blk_cell hbd (i := 1) rfl
  have e2 := blk_cell hbd (i := 2) rfl
  have e3 := blk_cell hbd (i := 3) rfl
  have e4 := blk_cell hbd (i := 4) rfl
  have e5 := blk_cell hbd (i := 5) rfl
  have e6 := blk_cell hbd (i := 6) rfl
  generalize d.md = m at *
  clear hpl hd hr hx0 hb0 hx1 hb1 hbd
  go_enter Tryz.func19, Tryz.ntmps19
  go_wp2_with fail
  refine (HMO.out _ HX1.out).mono ?_
  rintro e w2 ⟨vv, rv, rfl, hM2, hE2⟩
  obtain ⟨av, cv, rfl⟩ := EachL.val hM2.vars
  obtain ⟨ar, cr, rfl⟩ := EachL.val hM2.rules
  have HM2 := Lib.hid hM2
  have HX2 := Lib.hid (HX1.out.trans hE2)
  have HR2 := Lib.hid (blk_ext HR1.out hE2)
  clear hM2 hE2 e0 e1 e2 e3 e4 e5 e6
  go_wp2_with fail
  refine (kprops_any w2).mono ?_
  rintro e w3 ⟨qv, rfl, hQ3, hE3⟩
  obtain ⟨aq, cq, rfl⟩ := EachL.val hQ3
  have HQ3 := Lib.hid hQ3
  have HE3 := Lib.hid hE3
  clear hQ3 hE3
  go_wp2_with fail
  refine (HFO.out _ (HX2.out.trans HE3.out)).mono ?_
  rintro e w4 ⟨fv, rfl, ho4, hE4⟩
  have hT4 := isT_own ho4
  obtain ⟨af2, nf2, cf2, rfl⟩ := hT4.val
  have hR4 := blk_ext HR2.out (HE3.out.trans hE4)
  have HTK := Lib.hid (show IsTask w4 (.slice av m.vars.length cv) (.slice ar m.rules.length cr) (.slice aq propT.length cq) (.slice af2 nf2 cf2) m propT (forO raw 3 tempo) from ⟨HM2.out.ext (HE3.out.trans hE4), HQ3.out.ext hE4, hT4⟩)
  have HX4 := Lib.hid (HX2.out.trans (HE3.out.trans hE4))
  clear ho4 hE4 hT4 HM2 HQ3 HFO HMO
  generalize propT.length = np at *
  generalize m.vars.length = nv at *
  generalize m.rules.length = nr at *
  have HR4 := Lib.hid hR4
  have r0 := blk_cell hR4 (i := 0) rfl
  have f0 := blk_free hR4 0
  have h1 := blk_set (i := 0) hR4 (.slice av nv cv)
  rw [(set4 _ _ _ _ _).1] at h1
  have r1 := blk_cell h1 (i := 1) rfl
  have f1 := blk_free h1 1
  have h2 := blk_set (i := 1) h1 (.slice ar nr cr)
  rw [(set4 _ _ _ _ _).2.1] at h2
  have r2 := blk_cell h2 (i := 2) rfl
  have f2 := blk_free h2 2
  have h3 := blk_set (i := 2) h2 (.slice aq np cq)
  rw [(set4 _ _ _ _ _).2.2.1] at h3
  have r3 := blk_cell h3 (i := 3) rfl
  have f3 := blk_free h3 3
  have h4 := blk_set (i := 3) h3 (.slice af2 nf2 cf2)
  rw [(set4 _ _ _ _ _).2.2.2] at h4
  have H4 := Lib.hid h4
  clear hR4 h1 h2 h3 h4
  go_wp2
  have z0 := blk_cell H4.out (i := 0) rfl
  have z1 := blk_cell H4.out (i := 1) rfl
  have z2 := blk_cell H4.out (i := 2) rfl
  have z3 := blk_cell H4.out (i := 3) rfl
  have hg := (((grown_setP w4 ⟨w.heap.size + 1, 0, none⟩ (.slice av nv cv)).trans' (grown_setP _ ⟨w.heap.size + 1, 1, none⟩ (.slice ar nr cr))).trans' (grown_setP _ ⟨w.heap.size + 1, 2, none⟩ (.slice aq np cq))).trans' (grown_setP _ ⟨w.heap.size + 1, 3, none⟩ (.slice af2 nf2 cf2))
  refine bodyPost_ret (v := .agg #[.slice av nv cv, .slice ar nr cr, .slice aq np cq, .slice af2 nf2 cf2]) (by simp [results, Tryz.results19, go_sem, z0, z1, z2, z3]) rfl ⟨_, _, _, _, rfl, ⟨HTK.out.md.R HR4.out hg, IsTms.R HTK.out.pr HR4.out hg, isT_R HTK.out.fo HR4.out hg⟩, ?_⟩
  exact ext_st (ext_st (ext_st (ext_st HX4.out (by show w.heap.size ≤ w.heap.size + 1; omega) _) (by show w.heap.size ≤ w.heap.size + 1; omega) _) (by show w.heap.size ≤ w.heap.size + 1; omega) _) (by show w.heap.size ≤ w.heap.size + 1; omega) _

end Go.Proofs.YtbmimdnpchldlaaGreatDoor

namespace Go.Proofs.YtbmimdnpchldlaaGreatDoor
open Go.RowKit

/-- Spots of a state with claims below a number that say that the formula does not hold. -/
def begL (fi : Int) (L : List Bool) (t : Tm) (i : Nat) : List (Int × Int) := ((List.range i).filter fun c => !(tvT L c t 0).head?.getD false).map fun c : Nat => (fi, (c : Int))
theorem begL_yes {fi : Int} {L : List Bool} {t : Tm} {i : Nat} (h : (tvT L i t 0).head?.getD false = false) : begL fi L t (i + 1) = begL fi L t i ++ [(fi, (i : Int))] := by
  unfold begL
  rw [List.range_succ, List.filter_append, List.map_append]
  simp [h]
theorem begL_no {fi : Int} {L : List Bool} {t : Tm} {i : Nat} (h : (tvT L i t 0).head?.getD false = true) : begL fi L t (i + 1) = begL fi L t i := by
  unfold begL
  rw [List.range_succ, List.filter_append, List.map_append]
  simp [h]
theorem begL_len (fi : Int) (L : List Bool) (t : Tm) (i : Nat) : (begL fi L t i).length ≤ i := by
  unfold begL
  rw [List.length_map]
  exact Nat.le_trans (List.length_filter_le _ _) (by simp)

set_option maxRecDepth 100000 in
set_option maxHeartbeats 8000000 in
theorem begin_any (vv rv pv fv : Value) (m : Md) (P : List Tm) (t : Tm) (w : World) (h : IsTask w vv rv pv fv m P t) (ht : Tab w) (hk : TkOk m P t) :
    Calls Tryz.prog 42 #[.agg #[vv, rv, pv, fv]] w fun e w' => ∃ v, e = .returned (.tuple #[v, .int .i64 0]) ∧
      w'.ownsRow w.heap.size 59 2 v (begL m.first (letS P (valsL m.vars m.first)) t (2 ^ cntA t.flat)).length ((begL m.first (letS P (valsL m.vars m.first)) t (2 ^ cntA t.flat)).flatMap spc) ∧ Ext w w' := by
  have HCK := Lib.hid fun wx (hx : Ext w wx) => pcheck_any vv rv pv fv m P t wx (h.ext hx) (ht.ext hx) hk
  have HCL := Lib.hid fun wx (hx : Ext w wx) => claims_n vv rv pv fv m P t wx (h.ext hx) (ht.ext hx) hk
  have HFI := Lib.hid fun wx (hx : Ext w wx) => first_any vv rv m wx (h.md.ext hx) (ht.ext hx) hk.ok
  have hfb := codeL_bd hk.ok.vars (inits_in hk.ok.vars)
  have HLE := Lib.hid fun wx (hx : Ext w wx) => sletter_any vv rv pv m P m.first wx (h.md.ext hx) (ht.ext hx) hk.ok (h.pr.ext hx) hk.pk hfb.1 hfb.2
  have hll := letS_len P (valsL m.vars m.first)
  have HTR := Lib.hid fun (vl : Value) (c : Nat) wx (hx : Ext w wx) (hL : Bools wx vl (letS P (valsL m.vars m.first))) (hc : c < 2 ^ cntA t.flat) => truths_any fv t.flat t vl (letS P (valsL m.vars m.first)) c wx (h.fo.ext hx) (ht.ext hx) (by rw [hll]; exact hk.ff) hL hc
  have hc6 := hk.ff.cnt
  have hp2 : 2 ^ cntA t.flat ≤ 64 := by
    have := Nat.pow_le_pow_right (n := 2) (by omega) hc6
    simpa using this
  have hfl : 0 < t.flat.length := by rw [Tm.flat_len]; exact t.size_pos
  have hf60 : t.flat.length ≤ 60 := by rw [Tm.flat_len]; exact hk.ff.small
  have HTL := Lib.hid fun (L : List Bool) (c : Nat) => (show 0 < (tvT L c t 0).length by rw [tvT_len]; exact t.size_pos)
  obtain ⟨av, cv, ar, cr, ap, cp, af, nf, cf, rfl, rfl, rfl, rfl⟩ := h.val
  obtain ⟨fi, hfi⟩ : ∃ x, m.first = x := ⟨_, rfl⟩
  rw [hfi] at HFI HLE HTR hll ⊢
  obtain ⟨L, hL⟩ : ∃ x, letS P (valsL m.vars fi) = x := ⟨_, rfl⟩
  rw [hL] at HLE HTR hll ⊢
  obtain ⟨N, hN⟩ : ∃ x, 2 ^ cntA t.flat = x := ⟨_, rfl⟩
  rw [hN] at HCL HTR hp2 ⊢
  clear h ht hk hfi hL hN hfb hc6
  generalize m.vars.length = nv at *
  generalize m.rules.length = nr at *
  generalize hnp : P.length = np at *
  have HLL := Lib.hid hll
  have hb := blk_new w (Obj.cells #[.slice av nv cv, .slice ar nr cr, .slice ap np cp, .slice af nf cf] 35)
  have HE := Lib.hid (ext_al (Ext.refl w) (Obj.cells #[.slice av nv cv, .slice ar nr cr, .slice ap np cp, .slice af nf cf] 35))
  have HB := Lib.hid hb
  have d0 := blk_cell hb (i := 0) rfl
  have d1 := blk_cell hb (i := 1) rfl
  have d2 := blk_cell hb (i := 2) rfl
  have d3 := blk_cell hb (i := 3) rfl
  clear hb hll hnp
  go_enter Tryz.func42, Tryz.ntmps42
  go_wp2_with fail
  generalize w.alloc (Obj.cells #[.slice av nv cv, .slice ar nr cr, .slice ap np cp, .slice af nf cf] 35) = W1 at *
  refine (HCK.out _ HE.out).mono ?_
  rintro e w2 ⟨rfl, hE2⟩
  have HX2 := Lib.hid (HE.out.trans hE2)
  have HY2 := Lib.hid hE2
  have d0 := blk_cell (blk_ext HB.out hE2) (i := 0) rfl
  have d1 := blk_cell (blk_ext HB.out hE2) (i := 1) rfl
  clear hE2 d2 d3
  go_wp2_with fail
  refine (HFI.out _ HX2.out).mono ?_
  rintro e w3 ⟨rfl, hE3⟩
  have HX3 := Lib.hid (HX2.out.trans hE3)
  have HY3 := Lib.hid (HY2.out.trans hE3)
  have hb3 := blk_ext HB.out HY3.out
  have d0 := blk_cell hb3 (i := 0) rfl
  have d1 := blk_cell hb3 (i := 1) rfl
  have d2 := blk_cell hb3 (i := 2) rfl
  clear hE3 hb3
  go_wp2_with fail
  refine (HLE.out _ HX3.out).mono ?_
  rintro e w4 ⟨v4, rfl, ho4, hE4⟩
  obtain ⟨a4, c4, rfl, _⟩ := id ho4.row
  have HBO := Lib.hid (show Bools w4 (.slice a4 np c4) L from by
    have h := ho4.reads
    unfold Bools
    rw [HLL.out]
    exact h)
  have HX4 := Lib.hid (HX3.out.trans hE4)
  have HY4 := Lib.hid (HY3.out.trans hE4)
  have hb4 := blk_ext HB.out HY4.out
  have d0 := blk_cell hb4 (i := 0) rfl
  have d1 := blk_cell hb4 (i := 1) rfl
  have d2 := blk_cell hb4 (i := 2) rfl
  have d3 := blk_cell hb4 (i := 3) rfl
  clear hE4 hb4 ho4
  go_wp2_with fail
  refine (HCL.out _ HX4.out).mono ?_
  rintro e w5 ⟨rfl, hE5⟩
  have HX5 := Lib.hid (HX4.out.trans hE5)
  have HY5 := Lib.hid (HY4.out.trans hE5)
  have HBO5 := Lib.hid (HBO.out.ext hE5)
  clear hE5 d0 d1 d2 d3
  have HO0 := Lib.hid (show w5.ownsRow w5.heap.size 59 2 (.slice none 0 0) (begL fi L t 0).length ((begL fi L t 0).flatMap spc) from World.ownsRow_nil _ _ _ _)
  have HBL := Lib.hid fun i => begL_len fi L t i
  go_wp2_with fail
  go_loopg [35, 9] N (fun g x y wr => ∃ (i : Nat) (ab : Option Addr) (cb : Nat), g + i = N ∧ x = .int .i64 (i : Int) ∧ y = .slice ab (begL fi L t i).length cb ∧ Ext w5 wr ∧ wr.ownsRow w5.heap.size 59 2 (.slice ab (begL fi L t i).length cb) (begL fi L t i).length ((begL fi L t i).flatMap spc))
  case atStart => exact ⟨0, none, 0, by omega, by go_num, rfl, Ext.refl _, HO0.out⟩
  case round =>
    obtain ⟨i, ab, cb, hgi, rfl, rfl, hE, hO⟩ := hrel
    have HGI := Lib.hid hgi
    have HEE := Lib.hid hE
    have HOO := Lib.hid hO
    clear HO0
    by_cases hi : i < N
    · have hbr := blk_ext HB.out (HY5.out.trans hE)
      have d2 := blk_cell hbr (i := 2) rfl
      have d3 := blk_cell hbr (i := 3) rfl
      have HTC := Lib.hid (HTR.out _ i wr (HX5.out.trans hE) (HBO5.out.ext hE) hi)
      have hbl := HBL.out i
      have HYS := Lib.hid fun h => begL_yes (fi := fi) (L := L) (t := t) (i := i) h
      have HNO := Lib.hid fun h => begL_no (fi := fi) (L := L) (t := t) (i := i) h
      have hiI : (i : Int) < (N : Int) := by omega
      have hi0 : (0 : Int) ≤ (i : Int) := by omega
      obtain ⟨q, hq⟩ : ∃ q, (tvT L i t 0).head?.getD false = q := ⟨_, rfl⟩
      have HQ := Lib.hid (show (tvT L i t 0)[0]? = some q from by
        have h1 := HTL.out L i
        cases hv : tvT L i t 0 with
        | nil => rw [hv] at h1; simp at h1
        | cons b r => rw [hv] at hq; simp at hq; subst hq; rfl)
      rw [hq] at HYS HNO
      generalize tvT L i t 0 = tv at *
      obtain ⟨nb, hnb⟩ : ∃ x, (begL fi L t i).length = x := ⟨_, rfl⟩
      rw [hnb] at HOO hbl ⊢
      have HNB := Lib.hid hnb
      obtain ⟨nl, hnl⟩ : ∃ x, t.flat.length = x := ⟨_, rfl⟩
      rw [hnl] at HTC hfl hf60
      clear hgi hE hO hbr hq hnb hnl
      go_wp2_with fail
      refine HTC.out.mono ?_
      rintro e w6 ⟨D, rfl, ho6, hE6⟩
      have c0 := own_bool ho6 HQ.out
      have HE6 := Lib.hid (HEE.out.trans hE6)
      have HO6 := Lib.hid (own_ext HOO.out hE6)
      clear ho6 hE6 d2 d3
      cases q
      · have HO7 := Lib.hid fun (o : Obj) => own_ext HO6.out (ext_al (Ext.refl w6) o)
        have hs6 := HE6.out.size
        go_wp2_with (at_builtin; go_must (refine wpl_append rfl rfl Tryz.slSpots w5.heap.size rfl (HO7.out _) rfl (Row.newK _ _ 2 _ _ rfl rfl) (by intro u hu; simp only [List.mem_cons, List.not_mem_nil, or_false] at hu; rcases hu with rfl | rfl <;> rfl) (by unfold maxLen; omega) (by omega) (by simp; omega) ?_))
        intro v8 w8 hown8 hg8 hb8 _
        obtain ⟨a8, c8, rfl, _⟩ := id hown8.row
        have hA8 := ext_al (Ext.refl w6) (Obj.cells #[.int .i64 fi, .int .i64 (i : Int)] 59)
        have HE8 := Lib.hid (show Ext w5 w8 from Below.grown (HE6.out.trans hA8) hg8 (HE6.out.trans hA8).size (fun b hb => ((HO7.out (Obj.cells #[] 0)).lt b hb).1))
        have hbe := HYS.out (by first | rfl | trivial)
        have hbl2 : (begL fi L t (i + 1)).length = nb + 1 := by rw [hbe, List.length_append, HNB.out]; rfl
        have HO8 := Lib.hid (show w8.ownsRow w5.heap.size 59 2 (.slice a8 (nb + 1) c8) (begL fi L t (i + 1)).length ((begL fi L t (i + 1)).flatMap spc) from by
          have e1 : (begL fi L t (i + 1)).flatMap spc = (begL fi L t i).flatMap spc ++ [.int .i64 fi, .int .i64 (i : Int)] := by rw [hbe]; simp [spc]
          rw [hbl2, e1]
          exact hown8)
        have HB2 := Lib.hid hbl2
        clear hown8 hg8 hb8 hA8 hbe hbl2 c0
        go_wp2_with fail
        go_roundg (gk - 1)
        case measure => have := HGI.out; omega
        case rel => exact ⟨i + 1, a8, c8, by have := HGI.out; omega, by go_num, by rw [HB2.out], HE8.out, by rw [HB2.out]; rw [HB2.out] at HO8; exact HO8.out⟩
      · have hbe := HNO.out (by first | rfl | trivial)
        have HBE := Lib.hid hbe
        clear hbe
        go_wp2_with fail
        go_roundg (gk - 1)
        case measure => have := HGI.out; omega
        case rel => exact ⟨i + 1, ab, cb, by have := HGI.out; omega, by go_num, by rw [HBE.out, HNB.out], HE6.out, by rw [HBE.out, HNB.out]; exact HO6.out⟩
    · obtain rfl : i = N := by have := HGI.out; omega
      have hiI : ¬ (i : Int) < (i : Int) := by omega
      have hs5 := HX5.out.size
      clear hgi hE hO
      go_wp2
      go_ret2
      exact ⟨_, rfl, own_down HOO.out hs5, HX5.out.trans HEE.out⟩

end Go.Proofs.YtbmimdnpchldlaaGreatDoor

namespace Go.Proofs.YtbmimdnpchldlaaGreatDoor

/-- The moment behind one: of n moments, the loop begins at back. -/
def nxt (n back i : Nat) : Nat := if i + 1 < n then i + 1 else back
def nxtN (n back : Nat) : Nat → Nat → Nat
  | 0, i => i
  | j + 1, i => nxtN n back j (nxt n back i)
theorem nxt_lt {n back i : Nat} (h : back < n) : nxt n back i < n := by unfold nxt; split <;> omega
theorem nxtN_lt {n back : Nat} (h : back < n) : ∀ j i, i < n → nxtN n back j i < n
  | 0, _, hi => hi
  | j + 1, _, _ => nxtN_lt h j _ (nxt_lt h)
theorem nxtN_add (n back : Nat) : ∀ j k i, nxtN n back (j + k) i = nxtN n back k (nxtN n back j i)
  | 0, k, i => by rw [Nat.zero_add]; rfl
  | j + 1, k, i => by rw [show j + 1 + k = (j + k) + 1 by omega]; exact nxtN_add n back j k (nxt n back i)

/-- A word: its letters (the stem's, then the loop's), and where the loop begins. -/
structure Wd where
  ls : List (List Bool)
  back : Nat
def Wd.n (W : Wd) : Nat := W.ls.length

/-- One holds till the other does; one holds till the other lets it go. -/
def UntilP (n back : Nat) (a b : Nat → Prop) (i : Nat) : Prop := ∃ j, b (nxtN n back j i) ∧ ∀ m, m < j → a (nxtN n back m i)
def RelP (n back : Nat) (a b : Nat → Prop) (i : Nat) : Prop := ∀ j, b (nxtN n back j i) ∨ ∃ m, m < j ∧ a (nxtN n back m i)

/-- What holds of a word, at a moment. -/
def Sat (W : Wd) : Tm → Nat → Prop
  | .n0 k v, i => if k = 13 then ((W.ls.getD i []).getD v.toNat false) = true else k = 11
  | .n1 k _ a, i =>
    if k = 10 then ¬ Sat W a i
    else if k = 14 then Sat W a (nxt W.n W.back i)
    else if k = 17 then UntilP W.n W.back (fun _ => True) (Sat W a) i
    else RelP W.n W.back (fun _ => False) (Sat W a) i
  | .n2 k _ a b, i =>
    if k = 8 then Sat W a i ∧ Sat W b i
    else if k = 9 then Sat W a i ∨ Sat W b i
    else if k = 15 then UntilP W.n W.back (Sat W a) (Sat W b) i
    else RelP W.n W.back (Sat W a) (Sat W b) i

/-- The laws of what looks ahead, moment by moment. -/
theorem until_iff (n back : Nat) (a b : Nat → Prop) (i : Nat) : UntilP n back a b i ↔ b i ∨ (a i ∧ UntilP n back a b (nxt n back i)) := by
  constructor
  · rintro ⟨j, h1, h2⟩
    cases j with
    | zero => exact .inl h1
    | succ j => exact .inr ⟨h2 0 (by omega), j, h1, fun m hm => h2 (m + 1) (by omega)⟩
  · rintro (h | ⟨h, j, h1, h2⟩)
    · exact ⟨0, h, fun m hm => by omega⟩
    · refine ⟨j + 1, h1, fun m hm => ?_⟩
      cases m with
      | zero => exact h
      | succ m => exact h2 m (by omega)
theorem rel_iff (n back : Nat) (a b : Nat → Prop) (i : Nat) : RelP n back a b i ↔ b i ∧ (a i ∨ RelP n back a b (nxt n back i)) := by
  constructor
  · intro h
    refine ⟨by rcases h 0 with h | ⟨m, hm, _⟩; exact h; omega, ?_⟩
    by_cases ha : a i
    · exact .inl ha
    · refine .inr fun j => ?_
      rcases h (j + 1) with h | ⟨m, hm, h⟩
      · exact .inl h
      · cases m with
        | zero => exact absurd h ha
        | succ m => exact .inr ⟨m, by omega, h⟩
  · rintro ⟨h1, h2⟩ j
    cases j with
    | zero => exact .inl h1
    | succ j =>
      rcases h2 with h2 | h2
      · exact .inr ⟨0, by omega, h2⟩
      · rcases h2 j with h | ⟨m, hm, h⟩
        · exact .inl h
        · exact .inr ⟨m + 1, by omega, h⟩
/-- Release is the turned Until. -/
theorem rel_not (n back : Nat) (a b : Nat → Prop) (i : Nat) : RelP n back a b i ↔ ¬ UntilP n back (fun x => ¬ a x) (fun x => ¬ b x) i := by
  constructor
  · rintro h ⟨j, h1, h2⟩
    rcases h j with h | ⟨m, hm, h⟩
    · exact h1 h
    · exact h2 m hm h
  · intro h j
    by_cases hb : b (nxtN n back j i)
    · exact .inl hb
    · right
      by_cases hx : ∃ m, m < j ∧ a (nxtN n back m i)
      · exact hx
      · exact absurd ⟨j, hb, fun m hm ha => hx ⟨m, hm, ha⟩⟩ h

/-- A row that keeps the law of an Until from below is the Until: each true cell has its reason, and nothing more can be turned. -/
theorem until_row {n back : Nat} {a b r : Nat → Prop} (hback : back < n) (h1 : ∀ i, i < n → r i → UntilP n back a b i) (h2 : ∀ i, i < n → (b i ∨ (a i ∧ r (nxt n back i))) → r i) : ∀ i, i < n → (r i ↔ UntilP n back a b i) := by
  intro i hi
  refine ⟨h1 i hi, ?_⟩
  rintro ⟨j, hb, ha⟩
  induction j generalizing i with
  | zero => exact h2 i hi (.inl hb)
  | succ j ih => exact h2 i hi (.inr ⟨ha 0 (by omega), ih _ (nxt_lt hback) hb fun m hm => ha (m + 1) (by omega)⟩)
theorem rel_row {n back : Nat} {a b r : Nat → Prop} (hback : back < n) (h1 : ∀ i, i < n → RelP n back a b i → r i) (h2 : ∀ i, i < n → r i → (b i ∧ (a i ∨ r (nxt n back i)))) : ∀ i, i < n → (r i ↔ RelP n back a b i) := by
  intro i hi
  refine ⟨fun h j => ?_, h1 i hi⟩
  induction j generalizing i with
  | zero => exact .inl (h2 i hi h).1
  | succ j ih =>
    obtain ⟨_, h3 | h3⟩ := h2 i hi h
    · exact .inr ⟨0, by omega, h3⟩
    · rcases ih _ (nxt_lt hback) h3 with h | ⟨m, hm, h⟩
      · exact .inl h
      · exact .inr ⟨m + 1, by omega, h⟩

end Go.Proofs.YtbmimdnpchldlaaGreatDoor

namespace Go.Proofs.YtbmimdnpchldlaaGreatDoor

def updB (r : Nat → Bool) (i : Nat) (v : Bool) : Nat → Bool := fun x => if x = i then v else r x

/-- What holds while a row is settled: what was turned has its reason, and rightly so. -/
structure Sets (n back : Nat) (bg : Bool) (law : Nat → Bool → Bool) (fix : Nat → Prop) (r : Nat → Bool) : Prop where
  sup : ∀ i, i < n → r i = !bg → law i (r (nxt n back i)) = !bg
  snd : ∀ i, i < n → r i = !bg → fix i

theorem Sets.begin (n back : Nat) (bg : Bool) (law : Nat → Bool → Bool) (fix : Nat → Prop) : Sets n back bg law fix fun _ => bg :=
  ⟨fun _ _ h => absurd (show bg = !bg from h) (by cases bg <;> simp), fun _ _ h => absurd (show bg = !bg from h) (by cases bg <;> simp)⟩

/-- Where the law says otherwise the cell still is what it was at the beginning. -/
theorem Sets.old {n back : Nat} {bg : Bool} {law : Nat → Bool → Bool} {fix : Nat → Prop} {r : Nat → Bool} (h : Sets n back bg law fix r) {i : Nat} (hi : i < n) (hv : law i (r (nxt n back i)) ≠ r i) : r i = bg ∧ law i (r (nxt n back i)) = !bg := by
  have h1 := h.sup i hi
  cases hr : r i <;> cases bg <;> cases hl : law i (r (nxt n back i)) <;> simp_all

theorem Sets.turn {n back : Nat} {bg : Bool} {law : Nat → Bool → Bool} {fix : Nat → Prop} {r : Nat → Bool} (h : Sets n back bg law fix r) (hback : back < n) (hm : ∀ i, law i bg = !bg → law i (!bg) = !bg)
    (hs : ∀ i x, i < n → law i x = !bg → (x = !bg → fix (nxt n back i)) → fix i) {i : Nat} (hi : i < n) (hv : law i (r (nxt n back i)) = !bg) : Sets n back bg law fix (updB r i (!bg)) := by
  have hup : ∀ j, law j (r (nxt n back j)) = !bg → law j (updB r i (!bg) (nxt n back j)) = !bg := fun j hj => by
    unfold updB
    split
    · cases hx : r (nxt n back j) <;> rw [hx] at hj <;> cases bg <;> first | exact hj | exact hm j hj
    · exact hj
  refine ⟨fun j hj hr => ?_, fun j hj hr => ?_⟩
  · by_cases e : j = i
    · subst e; exact hup j hv
    · rw [updB, if_neg e] at hr
      exact hup j (h.sup j hj hr)
  · by_cases e : j = i
    · subst e
      exact hs j _ hj hv fun hx => h.snd _ (nxt_lt hback) hx
    · rw [updB, if_neg e] at hr
      exact h.snd j hj hr

/-- So many cells still are what they were at the beginning. -/
def cntB (n : Nat) (bg : Bool) (r : Nat → Bool) : Nat := ((List.range n).filter fun i => r i == bg).length
theorem cntB_turn {bg : Bool} {r : Nat → Bool} {i : Nat} (hr : r i = bg) : ∀ n, i < n → cntB n bg (updB r i (!bg)) + 1 = cntB n bg r
  | 0, h => by omega
  | n + 1, h => by
    unfold cntB
    rw [List.range_succ, List.filter_append, List.filter_append, List.length_append, List.length_append]
    by_cases e : i = n
    · subst e
      have h1 : (List.range i).filter (fun j => updB r i (!bg) j == bg) = (List.range i).filter fun j => r j == bg := List.filter_congr fun j hj => by
        have := List.mem_range.1 hj
        rw [updB, if_neg (by omega)]
      rw [h1]
      have h2 : (updB r i (!bg) i == bg) = false := by rw [updB, if_pos rfl]; cases bg <;> rfl
      have h3 : (r i == bg) = true := by rw [hr]; cases bg <;> rfl
      simp [h2, h3]
    · have ih := cntB_turn (bg := bg) hr n (by omega)
      unfold cntB at ih
      have h2 : (updB r i (!bg) n == bg) = (r n == bg) := by rw [updB, if_neg (fun x => e x.symm)]
      simp only [List.filter_cons, List.filter_nil, h2]
      omega

def lawU (a b : Nat → Bool) (i : Nat) (x : Bool) : Bool := b i || (a i && x)
def lawR (a b : Nat → Bool) (i : Nat) (x : Bool) : Bool := b i && (a i || x)
theorem lawU_mono (a b : Nat → Bool) (i : Nat) (h : lawU a b i false = !false) : lawU a b i (!false) = !false := by
  revert h; unfold lawU; cases a i <;> cases b i <;> decide
theorem lawR_mono (a b : Nat → Bool) (i : Nat) (h : lawR a b i true = !true) : lawR a b i (!true) = !true := by
  revert h; unfold lawR; cases a i <;> cases b i <;> decide
theorem lawU_step {n back : Nat} (a b : Nat → Bool) (i : Nat) (x : Bool) (_hi : i < n) (h : lawU a b i x = !false) (hx : x = !false → UntilP n back (fun j => a j = true) (fun j => b j = true) (nxt n back i)) : UntilP n back (fun j => a j = true) (fun j => b j = true) i := by
  rw [until_iff]
  unfold lawU at h
  simp only [Bool.not_false, Bool.or_eq_true, Bool.and_eq_true] at h hx
  rcases h with h | ⟨h1, h2⟩
  · exact .inl h
  · exact .inr ⟨h1, hx h2⟩
theorem lawR_step {n back : Nat} (a b : Nat → Bool) (i : Nat) (x : Bool) (_hi : i < n) (h : lawR a b i x = !true) (hx : x = !true → ¬ RelP n back (fun j => a j = true) (fun j => b j = true) (nxt n back i)) : ¬ RelP n back (fun j => a j = true) (fun j => b j = true) i := by
  rw [rel_iff]
  unfold lawR at h
  simp only [Bool.not_true, Bool.and_eq_false_iff, Bool.or_eq_false_iff] at h hx
  rintro ⟨h1, h2⟩
  rcases h with h | ⟨h3, h4⟩
  · rw [h] at h1; cases h1
  · rcases h2 with h2 | h2
    · rw [h3] at h2; cases h2
    · exact hx h4 h2
/-- A row at which nothing changes any more is the Until. -/
theorem settled_until {n back : Nat} {a b r : Nat → Bool} (hback : back < n) (h : Sets n back false (lawU a b) (UntilP n back (fun j => a j = true) (fun j => b j = true)) r) (hs : ∀ i, i < n → lawU a b i (r (nxt n back i)) = r i) :
    ∀ i, i < n → (r i = true ↔ UntilP n back (fun j => a j = true) (fun j => b j = true) i) :=
  until_row (r := fun i => r i = true) hback (fun i hi hr => h.snd i hi hr) fun i hi hx => by
    rw [← hs i hi]
    unfold lawU
    rcases hx with hx | ⟨h1, h2⟩
    · rw [hx]; rfl
    · rw [h1, h2]; simp
theorem settled_rel {n back : Nat} {a b r : Nat → Bool} (hback : back < n) (h : Sets n back true (lawR a b) (fun i => ¬ RelP n back (fun j => a j = true) (fun j => b j = true) i) r) (hs : ∀ i, i < n → lawR a b i (r (nxt n back i)) = r i) :
    ∀ i, i < n → (r i = true ↔ RelP n back (fun j => a j = true) (fun j => b j = true) i) :=
  rel_row (r := fun i => r i = true) hback (fun i hi hr => by
    cases hx : r i
    · exact absurd hr (h.snd i hi hx)
    · rfl) fun i hi hr => by
    rw [← hs i hi] at hr
    unfold lawR at hr
    simpa using hr

end Go.Proofs.YtbmimdnpchldlaaGreatDoor

namespace Go.Proofs.YtbmimdnpchldlaaGreatDoor

def Tm.kd : Tm → Int
  | .n0 k _ => k
  | .n1 k _ _ => k
  | .n2 k _ _ _ => k
def Tm.vl : Tm → Int
  | .n0 _ v => v
  | .n1 _ v _ => v
  | .n2 _ v _ _ => v
def subs : Tm → List Tm
  | .n0 k v => [.n0 k v]
  | .n1 k v a => .n1 k v a :: subs a
  | .n2 k v a b => .n2 k v a b :: (subs a ++ subs b)
theorem subs_len (t : Tm) : (subs t).length = t.size := by
  induction t with
  | n0 => rfl
  | n1 k v a ih => simp [subs, Tm.size, ih]
  | n2 k v a b ih1 ih2 => simp [subs, Tm.size, ih1, ih2]
theorem subs_head (t : Tm) : (subs t)[0]? = some t := by cases t <;> rfl

/-- The term that begins at a place, and where its parts begin. -/
structure SubAt (l : List Op2) (es : List Int) (S : List Tm) (i : Nat) (s : Tm) : Prop where
  op : l[i]? = some (s.kd, s.vl)
  sub : S[i]? = some s
  ok : s.ok
  one : ∀ k v a, s = .n1 k v a → S[i + 1]? = some a
  two : ∀ k v a b, s = .n2 k v a b → S[i + 1]? = some a ∧ es[i + 1]? = some (secAt es i : Int) ∧ i + 1 < secAt es i ∧ S[secAt es i]? = some b

theorem subs_law (t : Tm) (ht : t.ok) : ∀ (pre post : List Op2) (ea eb : List Int) (sa sb : List Tm), ea.length = pre.length → sa.length = pre.length →
    ∀ i, i < t.size → ∃ s, SubAt (pre ++ t.flat ++ post) (ea ++ t.ends pre.length ++ eb) (sa ++ subs t ++ sb) (pre.length + i) s := by
  induction t with
  | n0 k v =>
    intro pre post ea eb sa sb he hs i hi
    simp only [Tm.size] at hi
    obtain rfl : i = 0 := by omega
    refine ⟨.n0 k v, by simp [Tm.flat, Tm.kd, Tm.vl], by rw [← hs]; simp [subs], ht, fun _ _ _ h => (by cases h), fun _ _ _ _ h => (by cases h)⟩
  | n1 k v a ih =>
    intro pre post ea eb sa sb he hs i hi
    obtain ⟨h1, h2, h3, h4⟩ := ht
    have e1 : pre ++ Tm.flat (.n1 k v a) ++ post = (pre ++ [(k, v)]) ++ a.flat ++ post := by simp [Tm.flat]
    have e2 : ea ++ Tm.ends (.n1 k v a) pre.length ++ eb = (ea ++ [((pre.length + 1 + a.size : Nat) : Int)]) ++ a.ends (pre ++ [(k, v)]).length ++ eb := by simp [Tm.ends]
    have e3 : sa ++ subs (.n1 k v a) ++ sb = (sa ++ [Tm.n1 k v a]) ++ subs a ++ sb := by simp [subs]
    by_cases hi0 : i = 0
    · subst hi0
      refine ⟨.n1 k v a, by simp [Tm.flat, Tm.kd, Tm.vl], by rw [← hs]; simp [subs], ⟨h1, h2, h3, h4⟩, fun _ _ _ h => ?_, fun _ _ _ _ h => (by cases h)⟩
      cases h
      rw [e3, List.append_assoc, List.getElem?_append_right (by simp [hs]), List.getElem?_append_left (by rw [subs_len]; simp [hs]; exact a.size_pos)]
      simpa [hs] using subs_head a
    · have := ih h4 (pre ++ [(k, v)]) post (ea ++ [((pre.length + 1 + a.size : Nat) : Int)]) eb (sa ++ [Tm.n1 k v a]) sb (by simp [he]) (by simp [hs]) (i - 1) (by simp only [Tm.size] at hi; omega)
      rw [← e1, ← e2, ← e3, show (pre ++ [(k, v)]).length + (i - 1) = pre.length + i by simp; omega] at this
      exact this
  | n2 k v x y ih1 ih2 =>
    intro pre post ea eb sa sb he hs i hi
    obtain ⟨h1, h2, h3, h4, h5⟩ := ht
    have hfx := x.flat_len
    have hex := x.ends_len (pre.length + 1)
    have hsx := x.size_pos
    have hsy := y.size_pos
    have hlx := subs_len x
    have hly := subs_len y
    obtain ⟨E0, hE0⟩ : ∃ e, e = ((pre.length + 1 + x.size + y.size : Nat) : Int) := ⟨_, rfl⟩
    have e1 : pre ++ Tm.flat (.n2 k v x y) ++ post = (pre ++ [(k, v)]) ++ x.flat ++ (y.flat ++ post) := by simp [Tm.flat]
    have e1' : pre ++ Tm.flat (.n2 k v x y) ++ post = (pre ++ [(k, v)] ++ x.flat) ++ y.flat ++ post := by simp [Tm.flat]
    have e2 : ea ++ Tm.ends (.n2 k v x y) pre.length ++ eb = (ea ++ [E0]) ++ x.ends (pre ++ [(k, v)]).length ++ (y.ends (pre.length + 1 + x.size) ++ eb) := by simp [Tm.ends, hE0]
    have e2' : ea ++ Tm.ends (.n2 k v x y) pre.length ++ eb = (ea ++ [E0] ++ x.ends (pre.length + 1)) ++ y.ends (pre ++ [(k, v)] ++ x.flat).length ++ eb := by
      rw [show (pre ++ [(k, v)] ++ x.flat).length = pre.length + 1 + x.size by simp [hfx]; omega]
      simp [Tm.ends, hE0]
    have e3 : sa ++ subs (.n2 k v x y) ++ sb = (sa ++ [Tm.n2 k v x y]) ++ subs x ++ (subs y ++ sb) := by simp [subs]
    have e3' : sa ++ subs (.n2 k v x y) ++ sb = (sa ++ [Tm.n2 k v x y] ++ subs x) ++ subs y ++ sb := by simp [subs]
    by_cases hi0 : i = 0
    · subst hi0
      have hes : ((ea ++ [E0]) ++ x.ends (pre ++ [(k, v)]).length ++ (y.ends (pre.length + 1 + x.size) ++ eb))[pre.length + 0 + 1]? = some (((pre.length + 1 + x.size : Nat)) : Int) := by
        have hz := ends_zero x (pre.length + 1) (by rw [hex]; exact hsx)
        have hl2 : (pre ++ [(k, v)]).length = pre.length + 1 := by simp
        rw [hl2, List.append_assoc, List.getElem?_append_right (by simp [he]), List.getElem?_append_left (by rw [hex]; simp [he]; exact hsx)]
        rw [show pre.length + 0 + 1 - (ea ++ [E0]).length = 0 by simp [he], List.getElem?_eq_getElem (by rw [hex]; exact hsx), hz]
      have hsec : secAt ((ea ++ [E0]) ++ x.ends (pre ++ [(k, v)]).length ++ (y.ends (pre.length + 1 + x.size) ++ eb)) (pre.length + 0) = pre.length + 1 + x.size := by
        unfold secAt
        rw [List.getD, hes]
        show ((pre.length + 1 + x.size : Nat) : Int).toNat = _
        omega
      refine ⟨.n2 k v x y, by simp [Tm.flat, Tm.kd, Tm.vl], by rw [← hs]; simp [subs], ⟨h1, h2, h3, h4, h5⟩, fun _ _ _ h => (by cases h), fun _ _ _ _ h => ?_⟩
      cases h
      rw [e2, hsec]
      refine ⟨?_, hes, by omega, ?_⟩
      · rw [e3, List.append_assoc, List.getElem?_append_right (by simp [hs]), List.getElem?_append_left (by rw [hlx]; simp [hs]; exact hsx)]
        simpa [hs] using subs_head x
      · rw [e3', List.append_assoc, List.getElem?_append_right (by simp [hs, hlx]; omega), List.getElem?_append_left (by rw [hly]; simp [hs, hlx]; omega)]
        have e0 : pre.length + 1 + x.size - (sa ++ [Tm.n2 k v x y] ++ subs x).length = 0 := by simp [hs, hlx]; omega
        rw [e0]
        exact subs_head y
    · by_cases hix : i - 1 < x.size
      · have := ih1 h4 (pre ++ [(k, v)]) (y.flat ++ post) (ea ++ [E0]) (y.ends (pre.length + 1 + x.size) ++ eb) (sa ++ [Tm.n2 k v x y]) (subs y ++ sb) (by simp [he]) (by simp [hs]) (i - 1) hix
        rw [← e1, ← e2, ← e3, show (pre ++ [(k, v)]).length + (i - 1) = pre.length + i by simp; omega] at this
        exact this
      · have hpl : (pre ++ [(k, v)] ++ x.flat).length + (i - 1 - x.size) = pre.length + i := by simp [hfx]; omega
        have := ih2 h5 (pre ++ [(k, v)] ++ x.flat) post (ea ++ [E0] ++ x.ends (pre.length + 1)) eb (sa ++ [Tm.n2 k v x y] ++ subs x) sb (by simp [he, hex, hfx]) (by simp [hs, hlx, hfx]) (i - 1 - x.size) (by simp only [Tm.size] at hi; omega)
        rw [← e1', ← e2', ← e3', hpl] at this
        exact this

theorem subs_at (t : Tm) (ht : t.ok) (i : Nat) (hi : i < t.size) : ∃ s, SubAt t.flat (t.ends 0) (subs t) i s := by
  have := subs_law t ht [] [] [] [] [] [] rfl rfl i hi
  simpa using this

/-! What holds, as a truth. -/
noncomputable def satB (W : Wd) (t : Tm) (i : Nat) : Bool := @decide (Sat W t i) (Classical.propDecidable _)
theorem satB_iff {W : Wd} {t : Tm} {i : Nat} : satB W t i = true ↔ Sat W t i := by unfold satB; exact @decide_eq_true_iff _ (Classical.propDecidable _)
theorem satB_eq {W : Wd} {t : Tm} {i : Nat} {b : Bool} (h : Sat W t i ↔ b = true) : satB W t i = b := by
  rw [Bool.eq_iff_iff, satB_iff]; exact h

theorem until_congr {n back : Nat} {a a' b b' : Nat → Prop} (h1 : ∀ j, a j ↔ a' j) (h2 : ∀ j, b j ↔ b' j) (i : Nat) : UntilP n back a b i ↔ UntilP n back a' b' i := by
  obtain rfl : a = a' := funext fun j => propext (h1 j)
  obtain rfl : b = b' := funext fun j => propext (h2 j)
  exact Iff.rfl
theorem rel_congr {n back : Nat} {a a' b b' : Nat → Prop} (h1 : ∀ j, a j ↔ a' j) (h2 : ∀ j, b j ↔ b' j) (i : Nat) : RelP n back a b i ↔ RelP n back a' b' i := by
  obtain rfl : a = a' := funext fun j => propext (h1 j)
  obtain rfl : b = b' := funext fun j => propext (h2 j)
  exact Iff.rfl

section
variable (W : Wd) (v : Int) (a b : Tm) (i : Nat)
theorem satB_prop : satB W (.n0 13 v) i = (W.ls.getD i []).getD v.toNat false := satB_eq (by simp [Sat])
theorem satB_yes : satB W (.n0 11 v) i = true := satB_eq (by simp [Sat])
theorem satB_no : satB W (.n0 12 v) i = false := satB_eq (by simp [Sat])
theorem satB_not : satB W (.n1 10 v a) i = !satB W a i := satB_eq (by simp [Sat, ← satB_iff])
theorem satB_next : satB W (.n1 14 v a) i = satB W a (nxt W.n W.back i) := satB_eq (by simp [Sat, ← satB_iff])
theorem satB_and : satB W (.n2 8 v a b) i = (satB W a i && satB W b i) := satB_eq (by simp [Sat, ← satB_iff])
theorem satB_or : satB W (.n2 9 v a b) i = (satB W a i || satB W b i) := satB_eq (by simp [Sat, ← satB_iff])
theorem satB_fin : satB W (.n1 17 v a) i = true ↔ UntilP W.n W.back (fun _ => true = true) (fun j => satB W a j = true) i := by
  rw [satB_iff]
  simp only [Sat, show ¬ (17 : Int) = 10 by decide, show ¬ (17 : Int) = 14 by decide, if_false, if_true]
  exact until_congr (fun _ => by simp) (fun _ => satB_iff.symm) i
theorem satB_glo : satB W (.n1 18 v a) i = true ↔ RelP W.n W.back (fun _ => false = true) (fun j => satB W a j = true) i := by
  rw [satB_iff]
  simp only [Sat, show ¬ (18 : Int) = 10 by decide, show ¬ (18 : Int) = 14 by decide, show ¬ (18 : Int) = 17 by decide, if_false]
  exact rel_congr (fun _ => by simp) (fun _ => satB_iff.symm) i
theorem satB_unt : satB W (.n2 15 v a b) i = true ↔ UntilP W.n W.back (fun j => satB W a j = true) (fun j => satB W b j = true) i := by
  rw [satB_iff]
  simp only [Sat, show ¬ (15 : Int) = 8 by decide, show ¬ (15 : Int) = 9 by decide, if_false, if_true]
  exact until_congr (fun _ => satB_iff.symm) (fun _ => satB_iff.symm) i
theorem satB_rel : satB W (.n2 16 v a b) i = true ↔ RelP W.n W.back (fun j => satB W a j = true) (fun j => satB W b j = true) i := by
  rw [satB_iff]
  simp only [Sat, show ¬ (16 : Int) = 8 by decide, show ¬ (16 : Int) = 9 by decide, show ¬ (16 : Int) = 15 by decide, if_false]
  exact rel_congr (fun _ => satB_iff.symm) (fun _ => satB_iff.symm) i
end

/-- The terms that logic.Check lets stand, by their kinds. -/
theorem tm_cases {props : Int} {s : Tm} (hok : s.ok) (hf : FitOp props (s.kd, s.vl)) :
    (∃ v, s = .n0 13 v ∧ 0 ≤ v ∧ v < props) ∨ (s = .n0 11 0) ∨ (s = .n0 12 0) ∨ (∃ a, s = .n1 10 0 a) ∨ (∃ a, s = .n1 14 0 a) ∨ (∃ a, s = .n1 17 0 a) ∨ (∃ a, s = .n1 18 0 a) ∨
    (∃ a b, s = .n2 8 0 a b) ∨ (∃ a b, s = .n2 9 0 a b) ∨ (∃ a b, s = .n2 15 0 a b) ∨ (∃ a b, s = .n2 16 0 a b) := by
  obtain ⟨h1, h2, h3, h4⟩ := hf
  cases s with
  | n0 k v =>
    obtain ⟨_, _, hp⟩ := hok
    simp only [Tm.kd, Tm.vl] at h1 h2 h3 h4
    have : k = 11 ∨ k = 12 ∨ k = 13 := by
      unfold partsOf at hp
      split at hp
      · cases hp
      · split at hp
        · cases hp
        · omega
    rcases this with rfl | rfl | rfl
    · obtain rfl := h4 (by omega); exact .inr (.inl rfl)
    · obtain rfl := h4 (by omega); exact .inr (.inr (.inl rfl))
    · exact .inl ⟨v, rfl, h3 rfl⟩
  | n1 k v a =>
    obtain ⟨_, _, hp, _⟩ := hok
    simp only [Tm.kd, Tm.vl] at h1 h2 h3 h4
    have : k = 10 ∨ k = 14 ∨ k = 17 ∨ k = 18 := by
      unfold partsOf at hp
      split at hp
      · cases hp
      · split at hp
        · omega
        · cases hp
    obtain rfl := h4 (by omega)
    rcases this with rfl | rfl | rfl | rfl
    · exact .inr (.inr (.inr (.inl ⟨a, rfl⟩)))
    · exact .inr (.inr (.inr (.inr (.inl ⟨a, rfl⟩))))
    · exact .inr (.inr (.inr (.inr (.inr (.inl ⟨a, rfl⟩)))))
    · exact .inr (.inr (.inr (.inr (.inr (.inr (.inl ⟨a, rfl⟩))))))
  | n2 k v a b =>
    obtain ⟨_, _, hp, _⟩ := hok
    simp only [Tm.kd, Tm.vl] at h1 h2 h3 h4
    have : k = 8 ∨ k = 9 ∨ k = 15 ∨ k = 16 := by
      unfold partsOf at hp
      split at hp
      · omega
      · split at hp
        · cases hp
        · cases hp
    obtain rfl := h4 (by omega)
    rcases this with rfl | rfl | rfl | rfl
    · exact .inr (.inr (.inr (.inr (.inr (.inr (.inr (.inl ⟨a, b, rfl⟩)))))))
    · exact .inr (.inr (.inr (.inr (.inr (.inr (.inr (.inr (.inl ⟨a, b, rfl⟩))))))))
    · exact .inr (.inr (.inr (.inr (.inr (.inr (.inr (.inr (.inr (.inl ⟨a, b, rfl⟩)))))))))
    · exact .inr (.inr (.inr (.inr (.inr (.inr (.inr (.inr (.inr (.inr ⟨a, b, rfl⟩)))))))))

end Go.Proofs.YtbmimdnpchldlaaGreatDoor

namespace Go.Proofs.YtbmimdnpchldlaaGreatDoor

/-! Words that are told in another way. -/
section
variable {n n' back back' : Nat} {h : Nat → Nat} (hb : back' < n') (hn : ∀ i, i < n' → h (nxt n' back' i) = nxt n back (h i))
include hb hn
theorem nxtN_map : ∀ j i, i < n' → h (nxtN n' back' j i) = nxtN n back j (h i)
  | 0, _, _ => rfl
  | j + 1, i, hi => by
    show h (nxtN n' back' j (nxt n' back' i)) = nxtN n back j (nxt n back (h i))
    rw [nxtN_map j _ (nxt_lt hb), hn i hi]
theorem until_map {a b a' b' : Nat → Prop} (ha : ∀ i, i < n' → (a' i ↔ a (h i))) (hbb : ∀ i, i < n' → (b' i ↔ b (h i))) (i : Nat) (hi : i < n') : UntilP n' back' a' b' i ↔ UntilP n back a b (h i) := by
  constructor
  · rintro ⟨j, h1, h2⟩
    exact ⟨j, by rw [← nxtN_map hb hn j i hi]; exact (hbb _ (nxtN_lt hb j i hi)).1 h1, fun m hm => by rw [← nxtN_map hb hn m i hi]; exact (ha _ (nxtN_lt hb m i hi)).1 (h2 m hm)⟩
  · rintro ⟨j, h1, h2⟩
    exact ⟨j, (hbb _ (nxtN_lt hb j i hi)).2 (by rw [nxtN_map hb hn j i hi]; exact h1), fun m hm => (ha _ (nxtN_lt hb m i hi)).2 (by rw [nxtN_map hb hn m i hi]; exact h2 m hm)⟩
theorem rel_map {a b a' b' : Nat → Prop} (ha : ∀ i, i < n' → (a' i ↔ a (h i))) (hbb : ∀ i, i < n' → (b' i ↔ b (h i))) (i : Nat) (hi : i < n') : RelP n' back' a' b' i ↔ RelP n back a b (h i) := by
  rw [rel_not, rel_not]
  exact not_congr (until_map hb hn (fun i hi => not_congr (ha i hi)) (fun i hi => not_congr (hbb i hi)) i hi)
end

theorem sat_map {W W' : Wd} {h : Nat → Nat} (hb : W'.back < W'.n) (hn : ∀ i, i < W'.n → h (nxt W'.n W'.back i) = nxt W.n W.back (h i)) (hl : ∀ i, i < W'.n → W'.ls.getD i [] = W.ls.getD (h i) []) (t : Tm) :
    ∀ i, i < W'.n → (Sat W' t i ↔ Sat W t (h i)) := by
  induction t with
  | n0 k v =>
    intro i hi
    unfold Sat
    rw [hl i hi]
  | n1 k v a ih =>
    intro i hi
    unfold Sat
    split
    · exact not_congr (ih i hi)
    · split
      · rw [← hn i hi]; exact ih _ (nxt_lt hb)
      · split
        · exact until_map (a := fun _ => True) (a' := fun _ => True) hb hn (fun _ _ => Iff.rfl) ih i hi
        · exact rel_map (a := fun _ => False) (a' := fun _ => False) hb hn (fun _ _ => Iff.rfl) ih i hi
  | n2 k v a b ih1 ih2 =>
    intro i hi
    unfold Sat
    split
    · exact and_congr (ih1 i hi) (ih2 i hi)
    · split
      · exact or_congr (ih1 i hi) (ih2 i hi)
      · split
        · exact until_map hb hn ih1 ih2 i hi
        · exact rel_map hb hn ih1 ih2 i hi

theorem satB_map {W W' : Wd} {h : Nat → Nat} (hb : W'.back < W'.n) (hn : ∀ i, i < W'.n → h (nxt W'.n W'.back i) = nxt W.n W.back (h i)) (hl : ∀ i, i < W'.n → W'.ls.getD i [] = W.ls.getD (h i) []) (t : Tm) (i : Nat) (hi : i < W'.n) :
    satB W' t i = satB W t (h i) := satB_eq ((sat_map hb hn hl t i hi).trans satB_iff.symm)

/-- The loop twice. -/
theorem word_twice (S L : List (List Bool)) (hL : 0 < L.length) (t : Tm) : satB ⟨S ++ (L ++ L), S.length⟩ t 0 = satB ⟨S ++ L, S.length⟩ t 0 := by
  refine satB_map (W := ⟨S ++ L, S.length⟩) (h := fun i => if i < (S ++ L).length then i else i - L.length) (by simp [Wd.n]; omega) ?_ ?_ t 0 (by simp [Wd.n]; omega) |>.trans ?_
  · intro i hi
    simp only [Wd.n, List.length_append] at hi ⊢
    unfold nxt
    split <;> split <;> split <;> first | omega | skip
    all_goals (try split) <;> (try split) <;> omega
  · intro i hi
    simp only [Wd.n, List.length_append] at hi ⊢
    simp only [List.getD]
    congr 1
    split
    · rw [← List.append_assoc, List.getElem?_append_left (by simpa using ‹_›)]
    · rw [← List.append_assoc, List.getElem?_append_right (by simp; omega), List.getElem?_append_right (by omega)]
      congr 1
      simp; omega
  · have e : (if 0 < (S ++ L).length then 0 else 0 - L.length) = 0 := by split <;> omega
    show satB _ t (if 0 < (S ++ L).length then 0 else 0 - L.length) = _
    rw [e]

/-- A letter of the loop in the stem. -/
theorem word_turned (S L : List (List Bool)) (x : List Bool) (t : Tm) : satB ⟨(S ++ [x]) ++ (L ++ [x]), S.length + 1⟩ t 0 = satB ⟨S ++ (x :: L), S.length⟩ t 0 := by
  refine satB_map (W := ⟨S ++ (x :: L), S.length⟩) (h := fun i => if i < S.length + L.length + 1 then i else S.length) (by simp [Wd.n]) ?_ ?_ t 0 (by simp [Wd.n]; omega) |>.trans ?_
  · intro i hi
    simp only [Wd.n, List.length_append, List.length_cons, List.length_nil] at hi ⊢
    unfold nxt
    split <;> split <;> split <;> first | omega | skip
    all_goals (try split) <;> (try split) <;> omega
  · intro i hi
    simp only [Wd.n, List.length_append, List.length_cons, List.length_nil] at hi ⊢
    simp only [List.getD]
    congr 1
    have e : (S ++ [x]) ++ (L ++ [x]) = (S ++ (x :: L)) ++ [x] := by simp
    rw [e]
    split
    · rw [List.getElem?_append_left (by simp; omega)]
    · have e2 : i = (S ++ (x :: L)).length := by simp; omega
      rw [e2]
      simp
  · have e : (if 0 < S.length + L.length + 1 then 0 else S.length) = 0 := by rw [if_pos (by omega)]
    show satB _ t (if 0 < S.length + L.length + 1 then 0 else S.length) = _
    rw [e]

/-- The word without its first letter. -/
theorem word_tail (S L : List (List Bool)) (x : List Bool) (hL : 0 < L.length) (v : Int) (t : Tm) : satB ⟨(x :: S) ++ L, S.length + 1⟩ (.n1 14 v t) 0 = satB ⟨S ++ L, S.length⟩ t 0 := by
  rw [satB_next]
  refine (satB_map (W := ⟨(x :: S) ++ L, S.length + 1⟩) (h := fun i => i + 1) (by simp [Wd.n]; omega) ?_ ?_ t 0 (by simp [Wd.n]; omega) |>.trans ?_).symm
  · intro i hi
    simp only [Wd.n, List.length_append, List.length_cons] at hi ⊢
    unfold nxt
    split <;> split <;> omega
  · intro i hi
    simp
  · congr 1
    simp only [Wd.n, List.length_append, List.length_cons]
    unfold nxt
    rw [if_pos (by omega)]
theorem word_turn (L : List (List Bool)) (x : List Bool) (v : Int) (t : Tm) : satB ⟨x :: L, 0⟩ (.n1 14 v t) 0 = satB ⟨L ++ [x], 0⟩ t 0 := by
  rw [satB_next]
  refine (satB_map (W := ⟨x :: L, 0⟩) (h := fun i => if i + 1 < L.length + 1 then i + 1 else 0) (by simp [Wd.n]) ?_ ?_ t 0 (by simp [Wd.n]) |>.trans ?_).symm
  · intro i hi
    simp only [Wd.n, List.length_append, List.length_cons, List.length_nil] at hi ⊢
    unfold nxt
    split <;> split <;> first | omega | skip
    all_goals (try split) <;> (try split) <;> omega
  · intro i hi
    simp only [Wd.n, List.length_append, List.length_cons, List.length_nil] at hi ⊢
    simp only [List.getD]
    congr 1
    split
    · rw [List.getElem?_append_left (by omega)]; simp
    · have e2 : i = L.length := by omega
      subst e2; simp
  · rfl

/-! Finally and Globally. -/
section
variable {n back : Nat} {a b c : Nat → Prop} {i : Nat}
theorem fin_iff : UntilP n back (fun _ => True) b i ↔ ∃ j, b (nxtN n back j i) := ⟨fun ⟨j, h, _⟩ => ⟨j, h⟩, fun ⟨j, h⟩ => ⟨j, h, fun _ _ => trivial⟩⟩
theorem glo_iff : RelP n back (fun _ => False) b i ↔ ∀ j, b (nxtN n back j i) := ⟨fun h j => (h j).elim id fun ⟨_, _, h⟩ => h.elim, fun h j => .inl (h j)⟩

theorem until_or : UntilP n back a (fun x => b x ∨ c x) i ↔ UntilP n back a b i ∨ UntilP n back a c i := by
  constructor
  · rintro ⟨j, h | h, h2⟩
    · exact .inl ⟨j, h, h2⟩
    · exact .inr ⟨j, h, h2⟩
  · rintro (⟨j, h, h2⟩ | ⟨j, h, h2⟩)
    · exact ⟨j, .inl h, h2⟩
    · exact ⟨j, .inr h, h2⟩
theorem until_and : UntilP n back (fun x => a x ∧ b x) c i ↔ UntilP n back a c i ∧ UntilP n back b c i := by
  constructor
  · rintro ⟨j, h, h2⟩
    exact ⟨⟨j, h, fun m hm => (h2 m hm).1⟩, j, h, fun m hm => (h2 m hm).2⟩
  · rintro ⟨⟨j, h, h2⟩, k, g, g2⟩
    by_cases hjk : j ≤ k
    · exact ⟨j, h, fun m hm => ⟨h2 m hm, g2 m (by omega)⟩⟩
    · exact ⟨k, g, fun m hm => ⟨h2 m (by omega), g2 m hm⟩⟩
theorem until_twice : UntilP n back a (UntilP n back a b) i ↔ UntilP n back a b i := by
  constructor
  · rintro ⟨j, ⟨k, h, h2⟩, g⟩
    rw [← nxtN_add] at h
    refine ⟨j + k, h, fun m hm => ?_⟩
    by_cases hmj : m < j
    · exact g m hmj
    · have := h2 (m - j) (by omega)
      rw [← nxtN_add, show j + (m - j) = m by omega] at this
      exact this
  · intro h
    exact ⟨0, h, fun m hm => by omega⟩
theorem rel_twice : RelP n back a (RelP n back a b) i ↔ RelP n back a b i := by
  rw [rel_not, rel_not n back a b i]
  refine not_congr ?_
  rw [← until_twice (b := fun x => ¬ b x)]
  refine until_congr (fun _ => Iff.rfl) (fun j => ?_) i
  rw [rel_not]
  exact Classical.not_not
end

/-! The laws, term by term. -/
section
variable (W : Wd) (v v2 v3 v4 v5 v6 : Int) (f g h : Tm) (i : Nat)
theorem sat_fin : Sat W (.n1 17 v f) i ↔ ∃ j, Sat W f (nxtN W.n W.back j i) := by
  simp only [Sat, show ¬ (17 : Int) = 10 by decide, show ¬ (17 : Int) = 14 by decide, if_false, if_true]
  exact fin_iff
theorem sat_glo : Sat W (.n1 18 v f) i ↔ ∀ j, Sat W f (nxtN W.n W.back j i) := by
  simp only [Sat, show ¬ (18 : Int) = 10 by decide, show ¬ (18 : Int) = 14 by decide, show ¬ (18 : Int) = 17 by decide, if_false]
  exact glo_iff
theorem sat_unt : Sat W (.n2 15 v f g) i ↔ UntilP W.n W.back (Sat W f) (Sat W g) i := by
  simp only [Sat, show ¬ (15 : Int) = 8 by decide, show ¬ (15 : Int) = 9 by decide, if_false, if_true]
theorem sat_rel : Sat W (.n2 16 v f g) i ↔ RelP W.n W.back (Sat W f) (Sat W g) i := by
  simp only [Sat, show ¬ (16 : Int) = 8 by decide, show ¬ (16 : Int) = 9 by decide, show ¬ (16 : Int) = 15 by decide, if_false]
theorem sat_not : Sat W (.n1 10 v f) i ↔ ¬ Sat W f i := by simp only [Sat, if_true]
theorem sat_next : Sat W (.n1 14 v f) i ↔ Sat W f (nxt W.n W.back i) := by simp only [Sat, show ¬ (14 : Int) = 10 by decide, if_false, if_true]
theorem sat_and : Sat W (.n2 8 v f g) i ↔ Sat W f i ∧ Sat W g i := by simp only [Sat, if_true]
theorem sat_or : Sat W (.n2 9 v f g) i ↔ Sat W f i ∨ Sat W g i := by simp only [Sat, show ¬ (9 : Int) = 8 by decide, if_false, if_true]

theorem satB_congr {W W' : Wd} {t u : Tm} {i j : Nat} (h : Sat W t i ↔ Sat W' u j) : satB W t i = satB W' u j := satB_eq (h.trans satB_iff.symm)

theorem dual_glo : satB W (.n1 18 v f) i = satB W (.n1 10 v2 (.n1 17 v3 (.n1 10 v4 f))) i := satB_congr (by
  rw [sat_glo, sat_not, sat_fin]
  simp only [sat_not]
  exact ⟨fun h ⟨j, hj⟩ => hj (h j), fun h j => Classical.byContradiction fun hn => h ⟨j, hn⟩⟩)
theorem dual_rel : satB W (.n2 16 v f g) i = satB W (.n1 10 v2 (.n2 15 v3 (.n1 10 v4 f) (.n1 10 v5 g))) i := satB_congr (by
  rw [sat_rel, sat_not, sat_unt, rel_not]
  exact not_congr (until_congr (fun j => (sat_not W v4 f j).symm) (fun j => (sat_not W v5 g j).symm) i))
theorem or_not : satB W (.n2 9 v f (.n1 10 v2 f)) i = true := by
  rw [satB_or, satB_not]; simp

theorem spread_glo : satB W (.n1 18 v (.n2 8 v2 f g)) i = satB W (.n2 8 v3 (.n1 18 v4 f) (.n1 18 v5 g)) i := satB_congr (by
  simp only [sat_glo, sat_and]
  exact forall_and)
theorem spread_fin : satB W (.n1 17 v (.n2 9 v2 f g)) i = satB W (.n2 9 v3 (.n1 17 v4 f) (.n1 17 v5 g)) i := satB_congr (by
  simp only [sat_fin, sat_or]
  exact exists_or)
theorem spread_unt : satB W (.n2 15 v f (.n2 9 v2 g h)) i = satB W (.n2 9 v3 (.n2 15 v4 f g) (.n2 15 v5 f h)) i := satB_congr (by
  rw [sat_unt, sat_or, sat_unt, sat_unt, ← until_or]
  exact until_congr (fun _ => Iff.rfl) (fun j => sat_or W v2 g h j) i)
theorem spread_both : satB W (.n2 15 v (.n2 8 v2 f g) h) i = satB W (.n2 8 v3 (.n2 15 v4 f h) (.n2 15 v5 g h)) i := satB_congr (by
  rw [sat_unt, sat_and, sat_unt, sat_unt, ← until_and]
  exact until_congr (fun j => sat_and W v2 f g j) (fun _ => Iff.rfl) i)
theorem spread_next : satB W (.n1 14 v (.n2 8 v2 f g)) i = satB W (.n2 8 v3 (.n1 14 v4 f) (.n1 14 v5 g)) i := satB_congr (by
  simp only [sat_next, sat_and])

theorem nest_glo : satB W (.n1 18 v (.n1 18 v2 f)) i = satB W (.n1 18 v3 f) i := satB_congr (by
  simp only [sat_glo, ← nxtN_add]
  exact ⟨fun h j => by simpa using h j 0, fun h j k => h (j + k)⟩)
theorem nest_fin : satB W (.n1 17 v (.n1 17 v2 f)) i = satB W (.n1 17 v3 f) i := satB_congr (by
  simp only [sat_fin, ← nxtN_add]
  exact ⟨fun ⟨j, k, h⟩ => ⟨j + k, h⟩, fun ⟨j, h⟩ => ⟨j, 0, by simpa using h⟩⟩)
theorem nest_unt : satB W (.n2 15 v f (.n2 15 v2 f g)) i = satB W (.n2 15 v3 f g) i := satB_congr (by
  rw [sat_unt, sat_unt, ← until_twice (b := Sat W g)]
  exact until_congr (fun _ => Iff.rfl) (fun j => sat_unt W v2 f g j) i)
theorem nest_rel : satB W (.n2 16 v f (.n2 16 v2 f g)) i = satB W (.n2 16 v3 f g) i := satB_congr (by
  rw [sat_rel, sat_rel, ← rel_twice (b := Sat W g)]
  exact rel_congr (fun _ => Iff.rfl) (fun j => sat_rel W v2 f g j) i)
theorem nest_fgf : satB W (.n1 17 v (.n1 18 v2 (.n1 17 v3 f))) i = satB W (.n1 18 v4 (.n1 17 v5 f)) i := satB_congr (by
  simp only [sat_fin, sat_glo, ← nxtN_add]
  exact ⟨fun ⟨j, h⟩ k => by
    obtain ⟨m, hm⟩ := h k
    exact ⟨j + m, by rw [show k + (j + m) = j + k + m by omega]; exact hm⟩, fun h => ⟨0, fun k => by simpa using h k⟩⟩)
theorem nest_gfg : satB W (.n1 18 v (.n1 17 v2 (.n1 18 v3 f))) i = satB W (.n1 17 v4 (.n1 18 v5 f)) i := satB_congr (by
  simp only [sat_fin, sat_glo, ← nxtN_add]
  exact ⟨fun h => by simpa using h 0, fun ⟨j, h⟩ k => ⟨j, fun m => by rw [show k + j + m = j + (k + m) by omega]; exact h (k + m)⟩⟩)

/-! Moment by moment. -/
theorem now_unt : satB W (.n2 15 v f g) i = (satB W g i || (satB W f i && satB W (.n2 15 v f g) (nxt W.n W.back i))) := satB_eq (by
  rw [sat_unt, until_iff]
  simp only [Bool.or_eq_true, Bool.and_eq_true, satB_iff, sat_unt])
theorem now_rel : satB W (.n2 16 v f g) i = (satB W g i && (satB W f i || satB W (.n2 16 v f g) (nxt W.n W.back i))) := satB_eq (by
  rw [sat_rel, rel_iff]
  simp only [Bool.or_eq_true, Bool.and_eq_true, satB_iff, sat_rel])
theorem now_fin : satB W (.n1 17 v f) i = (satB W f i || satB W (.n1 17 v f) (nxt W.n W.back i)) := satB_eq (by
  simp only [Bool.or_eq_true, satB_iff, sat_fin]
  exact ⟨fun ⟨j, h⟩ => by
    cases j with
    | zero => exact .inl h
    | succ j => exact .inr ⟨j, h⟩, fun h => by
    rcases h with h | ⟨j, h⟩
    · exact ⟨0, h⟩
    · exact ⟨j + 1, h⟩⟩)
theorem now_glo : satB W (.n1 18 v f) i = (satB W f i && satB W (.n1 18 v f) (nxt W.n W.back i)) := satB_eq (by
  simp only [Bool.and_eq_true, satB_iff, sat_glo]
  exact ⟨fun h => ⟨h 0, fun j => h (j + 1)⟩, fun ⟨h1, h2⟩ j => by
    cases j with
    | zero => exact h1
    | succ j => exact h2 j⟩)
end

/-! The moments that are to come. -/
theorem nxtN_min {n back : Nat} : ∀ j i, min i back ≤ nxtN n back j i
  | 0, i => by show min i back ≤ i; omega
  | j + 1, i => by
    have h := nxtN_min (n := n) (back := back) j (nxt n back i)
    have h2 : min i back ≤ min (nxt n back i) back := by unfold nxt; split <;> omega
    exact Nat.le_trans h2 h
theorem nxtN_up {n back : Nat} : ∀ j i, i + j < n → nxtN n back j i = i + j
  | 0, i, _ => rfl
  | j + 1, i, h => by
    show nxtN n back j (nxt n back i) = _
    have e : nxt n back i = i + 1 := by unfold nxt; rw [if_pos (by omega)]
    rw [e, nxtN_up j (i + 1) (by omega)]
    omega
theorem nxtN_back {n back : Nat} : ∀ j i, i + j = n → 0 < j → nxtN n back j i = back
  | 0, i, _, h => by omega
  | 1, i, h, _ => by show nxt n back i = back; unfold nxt; rw [if_neg (by omega)]
  | j + 2, i, h, _ => by
    show nxtN n back (j + 1) (nxt n back i) = _
    have e : nxt n back i = i + 1 := by unfold nxt; rw [if_pos (by omega)]
    rw [e, nxtN_back (j + 1) (i + 1) (by omega) (by omega)]
theorem nxtN_reach {n back i k : Nat} (hi : i < n) (h1 : min i back ≤ k) (h2 : k < n) (hb : back < n) : ∃ j, nxtN n back j i = k := by
  by_cases h : i ≤ k
  · exact ⟨k - i, by rw [nxtN_up _ _ (by omega)]; omega⟩
  · refine ⟨(n - i) + (k - back), ?_⟩
    rw [nxtN_add, nxtN_back (n - i) i (by omega) (by omega), nxtN_up _ _ (by omega)]
    omega
theorem fin_loop (W : Wd) (v : Int) (f : Tm) (i : Nat) (hi : i < W.n) (hb : W.back < W.n) : satB W (.n1 17 v f) i = true ↔ ∃ k, min i W.back ≤ k ∧ k < W.n ∧ satB W f k = true := by
  simp only [satB_iff, sat_fin]
  exact ⟨fun ⟨j, h⟩ => ⟨_, nxtN_min j i, nxtN_lt hb j i hi, h⟩, fun ⟨k, h1, h2, h⟩ => by
    obtain ⟨j, rfl⟩ := nxtN_reach hi h1 h2 hb
    exact ⟨j, h⟩⟩
theorem glo_loop (W : Wd) (v : Int) (f : Tm) (i : Nat) (hi : i < W.n) (hb : W.back < W.n) : satB W (.n1 18 v f) i = true ↔ ∀ k, min i W.back ≤ k → k < W.n → satB W f k = true := by
  simp only [satB_iff, sat_glo]
  exact ⟨fun h k h1 h2 => by
    obtain ⟨j, rfl⟩ := nxtN_reach hi h1 h2 hb
    exact h j, fun h j => h _ (nxtN_min j i) (nxtN_lt hb j i hi)⟩

end Go.Proofs.YtbmimdnpchldlaaGreatDoor

namespace Go.Proofs.YtbmimdnpchldlaaGreatDoor
open Go.RowKit

/-- Does an op that looks ahead have what it waits for? -/
def metB (k : Int) (es : List Int) (tv : List Bool) (i : Nat) : Bool :=
  if k = 17 then !tv.getD i false || tv.getD (i + 1) false
  else if k = 18 then tv.getD i false || !tv.getD (i + 1) false
  else if k = 15 then !tv.getD i false || tv.getD (secAt es i) false
  else if k = 16 then tv.getD i false || !tv.getD (secAt es i) false
  else true

/-- Which of the first ops that look ahead have it, as bits. -/
def meUp (l : List Op2) (es : List Int) (tv : List Bool) : Nat → Nat
  | 0 => 0
  | i + 1 => if aheadB (l.getD i (0, 0)).1 && metB (l.getD i (0, 0)).1 es tv i then meUp l es tv i ||| 2 ^ cntA (l.take i) else meUp l es tv i

theorem meUp_lt (l : List Op2) (es : List Int) (tv : List Bool) : ∀ i, i ≤ l.length → meUp l es tv i < 2 ^ cntA (l.take i)
  | 0, _ => Nat.two_pow_pos _
  | i + 1, h => by
    have ih := meUp_lt l es tv i (by omega)
    have hc := cntA_take l (show i < l.length by omega)
    have hg : l.getD i (0, 0) = l[i]'(by omega) := by simp [List.getD, List.getElem?_eq_getElem (show i < l.length by omega)]
    unfold meUp
    rw [hg, hc]
    split
    · rename_i e
      simp only [Bool.and_eq_true] at e
      rw [if_pos e.1]
      exact Nat.or_lt_two_pow (Nat.lt_of_lt_of_le ih (Nat.pow_le_pow_right (by omega) (by omega))) (Nat.pow_lt_pow_right (by omega) (by omega))
    · exact Nat.lt_of_lt_of_le ih (Nat.pow_le_pow_right (by omega) (by omega))

set_option maxRecDepth 100000 in
set_option maxHeartbeats 8000000 in
theorem meets_any (v : Value) (l : List Op2) (t : Tm) (vl : Value) (L : List Bool) (c : Nat) (w : World) (h : Ops w v l) (ht : Tab w) (hf : IsF l (L.length : Int) t) (hL : Bools w vl L) (hc : c < 2 ^ cntA l) :
    Calls Tryz.prog 45 #[v, vl, .int .i64 (c : Int)] w fun e w' => e = .returned (.tuple #[.int .i64 (meUp l (t.ends 0) (tvT L c t 0) l.length : Int), .int .i64 0]) ∧ Ext w w' := by
  have hen := ends_term t hf.ok hf.small
  rw [hf.flat] at hen
  have HTR := Lib.hid (truths_any v l t vl L c w h ht hf hL hc)
  have HEN := Lib.hid fun wx (hx : Ext w wx) => by have H := ends_any v l wx (h.ext hx) (ht.ext hx); rw [hen] at H; exact H
  have hl60 : l.length ≤ 60 := by rw [← hf.flat, Tm.flat_len]; exact hf.small
  have hpos : 0 < l.length := by rw [← hf.flat, Tm.flat_len]; exact t.size_pos
  have htl : (tvT L c t 0).length = l.length := by rw [tvT_len, ← Tm.flat_len, hf.flat]
  have hel : (t.ends 0).length = l.length := by rw [Tm.ends_len, ← Tm.flat_len, hf.flat]
  have HTV := Lib.hid fun i k v (hi : l[i]? = some (k, v)) => by have := tv_at L c t hf.ok i k v (by rw [hf.flat]; exact hi); rw [hf.flat] at this; exact this
  obtain ⟨a, cap, rfl, hr⟩ := h
  obtain ⟨al, cl, rfl, hrl⟩ := hL
  have HR := Lib.hid hr
  have HF := Lib.hid hf
  have hc6 := hf.cnt
  generalize t.ends 0 = es at *
  generalize tvT L c t 0 = tv at *
  have HTL := Lib.hid htl
  have HEL := Lib.hid hel
  clear hen hf hr hrl ht htl hel hc
  go_enter Tryz.func45, Tryz.ntmps45
  go_wp2_with fail
  refine HTR.out.mono ?_
  rintro e w1 ⟨D, rfl, hot, hE1⟩
  have HOT := Lib.hid hot
  have HE1 := Lib.hid hE1
  clear hot hE1 HTR
  go_wp2_with fail
  refine (HEN.out _ HE1.out).mono ?_
  rintro e w2 ⟨hE2, v2, rfl, hown2⟩
  obtain ⟨ae, ce, rfl, hre⟩ := hown2.row
  have HRE := Lib.hid hre
  have HE2 := Lib.hid (HE1.out.trans hE2)
  have HOT2 := Lib.hid (own_ext HOT.out hE2)
  clear hown2 hre hE2 HEN HE1 HOT
  go_wp2_with fail
  go_loopg [12, 13, 34] l.length (fun m y z x wr => ∃ i : Nat, m + i = l.length ∧ x = .int .i64 (i : Int) ∧ y = .int .i64 (meUp l es tv i : Int) ∧ z = .int .i64 (cntA (l.take i) : Int) ∧ Ext w2 wr)
  case atStart => exact ⟨0, by omega, by go_num, rfl, by simp [cntA], Ext.refl _⟩
  case round =>
    obtain ⟨i, hmi, rfl, rfl, rfl, hE⟩ := hrel
    have HMI := Lib.hid hmi
    have HE := Lib.hid hE
    by_cases hi : i < l.length
    · obtain ⟨b, off, hb, hcc⟩ := (HR.out.ext (HE2.out.trans hE)).ops
      obtain rfl := hb hpos
      obtain ⟨k1, k2⟩ := hcc i hi
      have hg : l.getD i (0, 0) = l[i] := by simp [List.getD, List.getElem?_eq_getElem hi]
      have hmu : meUp l es tv (i + 1) = if aheadB l[i].1 && metB l[i].1 es tv i then meUp l es tv i ||| 2 ^ cntA (l.take i) else meUp l es tv i := by rw [meUp, hg]
      have hcn := cntA_take l hi
      have hlt := meUp_lt l es tv i (by omega)
      have hle := cntA_take_le l i
      have hp6 : 2 ^ cntA (l.take i) ≤ 2 ^ 6 := Nat.pow_le_pow_right (by omega) (by omega)
      have htva := HTV.out i l[i].1 l[i].2 (List.getElem?_eq_getElem hi)
      obtain ⟨hf1, hf2, -, -⟩ := HF.out.fit l[i] (by simp)
      have hor := i64_or_nat (meUp l es tv i) (2 ^ cntA (l.take i)) (by omega) (by omega)
      have hpe : ((2 ^ cntA (l.take i) : Nat) : Int) = (2 : Int) ^ cntA (l.take i) := by push_cast; rfl
      have hw0 : IntKind.i64.wrap ((2 : Int) ^ cntA (l.take i)) = ((2 ^ cntA (l.take i) : Nat) : Int) := by rw [← hpe]; exact IntWalk.i64_in _ (by omega)
      have HAF := Lib.hid fun wx => ah_fn l[i].1 wx
      have HMU := Lib.hid hmu
      have HCN := Lib.hid hcn
      have HTA := Lib.hid htva
      have hiI : (i : Int) < (l.length : Int) := by omega
      have hi0 : (0 : Int) ≤ (i : Int) := by omega
      have hti : tv[i]? = some (tv.getD i false) := getD_some (by rw [HTL.out]; exact hi)
      have cT := own_bool (own_ext HOT2.out hE) hti
      have HOTR := Lib.hid (own_ext HOT2.out hE)
      have HRER := Lib.hid (HRE.out.ext hE)
      clear hcc hb hmu hcn htva hlt hp6 hpe hti hE hmi hg
      generalize meUp l es tv i = me at *
      generalize hme1 : meUp l es tv (i + 1) = me1 at *
      have HME1 := Lib.hid hme1
      clear hme1
      generalize hc0 : cntA (l.take i) = cn at *
      generalize 2 ^ cn = pc at *
      have HDW := Lib.hid fun (o : Op2) (x : Addr) (y : Value) (hc : wr.cell? x = some y) => cell_later (ext_al (Ext.refl wr) (Obj.cells #[.int .i64 o.1, .int .i64 o.2] 75)) hc
      replace cT := HDW.out l[i] _ _ cT
      generalize l[i] = o at *
      obtain ⟨k, u⟩ := o
      simp only at k1 k2 hf1 hf2 HAF HMU HCN HTA
      have hx := ext_al HE.out (Obj.cells #[.int .i64 k, .int .i64 u] 75)
      have HX := Lib.hid hx
      clear hx
      go_wp2_with fail
      refine (HAF.out _).mono ?_
      rintro e wq ⟨rfl, rfl⟩
      cases hah : aheadB k
      · have hmu := HMU.out
        have hcn := HCN.out
        rw [hah] at hmu hcn
        have HM2 := Lib.hid (show me1 = me by simpa using hmu)
        have HC2 := Lib.hid (show cntA (l.take (i + 1)) = cn by simpa using hcn)
        clear hmu hcn hah
        go_wp2_with fail
        go_roundg (gk - 1)
        case measure => have := HMI.out; omega
        case rel => exact ⟨i + 1, by have := HMI.out; omega, by go_num, by rw [HME1.out, HM2.out], by rw [HC2.out], HX.out⟩
      · have hmu := HMU.out
        have hcn := HCN.out
        rw [hah] at hmu hcn
        have HC2 := Lib.hid (show cntA (l.take (i + 1)) = cn + 1 by simpa using hcn)
        have hk14 : 14 ≤ k := by have := hah; unfold aheadB at this; simp only [decide_eq_true_eq] at this; exact this.1
        have hcn6 : cn ≤ 6 := by omega
        obtain ⟨b, hb⟩ : ∃ b, tv.getD i false = b := ⟨_, rfl⟩
        rw [hb] at cT
        clear hcn
        rcases (show k = 14 ∨ k = 15 ∨ k = 16 ∨ k = 17 ∨ k = 18 by omega) with rfl | rfl | rfl | rfl | rfl
        · -- Next
          have HM2 := Lib.hid (show me1 = me ||| pc by simpa [metB] using hmu)
          clear hmu hah
          go_wp2_with fail
          go_roundg (gk - 1)
          case measure => have := HMI.out; omega
          case rel => exact ⟨i + 1, by have := HMI.out; omega, by go_num, by rw [HME1.out, HM2.out], by rw [HC2.out]; go_num, HX.out⟩
        · -- 15
          obtain ⟨ht1, ht2, ht3⟩ := HTA.out.two rfl
          obtain ⟨s, hs⟩ : ∃ s, secAt es i = s := ⟨_, rfl⟩
          rw [hs] at ht1 ht2 ht3
          obtain ⟨b2, hb2⟩ : ∃ b, tv.getD s false = b := ⟨_, rfl⟩
          have hm : metB 15 es tv i = (!b || b2) := by rw [metB, if_neg (by decide), if_neg (by decide), if_pos rfl, hb, hs, hb2]
          rw [hm] at hmu
          have hts := getD_some (l := tv) (i := s) (by rw [HTL.out]; exact ht3)
          rw [hb2] at hts
          have cT2 := HDW.out (15, u) _ _ (own_bool HOTR.out hts)
          obtain ⟨be, oe, he1, he2⟩ := row_ints HRER.out
          obtain rfl := he1 (by rw [HEL.out]; exact hpos)
          have cE := HDW.out (15, u) _ _ (he2 _ _ ht1)
          have hsI : (s : Int) < (l.length : Int) := by omega
          have hs0 : (0 : Int) ≤ (s : Int) := by omega
          have hiE : (i : Int) + 1 < (es.length : Int) := by have := HEL.out; omega
          have hi10 : (0 : Int) ≤ (i : Int) + 1 := by omega
          have hit : ((i : Int) + 1).toNat = i + 1 := by omega
          clear hm hts he1 he2 ht1 ht2 ht3 hs hb hb2 hah
          cases b <;> cases b2
          all_goals
            first
              | have HM2 := Lib.hid (show me1 = me ||| pc from hmu)
              | have HM2 := Lib.hid (show me1 = me from hmu)
            clear hmu
            go_wp2_with fail
            go_roundg (gk - 1)
            case measure => have := HMI.out; omega
            case rel => exact ⟨i + 1, by have := HMI.out; omega, by go_num, by rw [HME1.out, HM2.out], by rw [HC2.out]; go_num, HX.out⟩
        · -- 16
          obtain ⟨ht1, ht2, ht3⟩ := HTA.out.two rfl
          obtain ⟨s, hs⟩ : ∃ s, secAt es i = s := ⟨_, rfl⟩
          rw [hs] at ht1 ht2 ht3
          obtain ⟨b2, hb2⟩ : ∃ b, tv.getD s false = b := ⟨_, rfl⟩
          have hm : metB 16 es tv i = (b || !b2) := by rw [metB, if_neg (by decide), if_neg (by decide), if_neg (by decide), if_pos rfl, hb, hs, hb2]
          rw [hm] at hmu
          have hts := getD_some (l := tv) (i := s) (by rw [HTL.out]; exact ht3)
          rw [hb2] at hts
          have cT2 := HDW.out (16, u) _ _ (own_bool HOTR.out hts)
          obtain ⟨be, oe, he1, he2⟩ := row_ints HRER.out
          obtain rfl := he1 (by rw [HEL.out]; exact hpos)
          have cE := HDW.out (16, u) _ _ (he2 _ _ ht1)
          have hsI : (s : Int) < (l.length : Int) := by omega
          have hs0 : (0 : Int) ≤ (s : Int) := by omega
          have hiE : (i : Int) + 1 < (es.length : Int) := by have := HEL.out; omega
          have hi10 : (0 : Int) ≤ (i : Int) + 1 := by omega
          have hit : ((i : Int) + 1).toNat = i + 1 := by omega
          clear hm hts he1 he2 ht1 ht2 ht3 hs hb hb2 hah
          cases b <;> cases b2
          all_goals
            first
              | have HM2 := Lib.hid (show me1 = me ||| pc from hmu)
              | have HM2 := Lib.hid (show me1 = me from hmu)
            clear hmu
            go_wp2_with fail
            go_roundg (gk - 1)
            case measure => have := HMI.out; omega
            case rel => exact ⟨i + 1, by have := HMI.out; omega, by go_num, by rw [HME1.out, HM2.out], by rw [HC2.out]; go_num, HX.out⟩
        · -- 17
          have hone := HTA.out.one (.inl rfl)
          obtain ⟨b1, hb1⟩ : ∃ b, tv.getD (i + 1) false = b := ⟨_, rfl⟩
          have hm : metB 17 es tv i = (!b || b1) := by rw [metB, if_pos rfl, hb, hb1]
          rw [hm] at hmu
          have hts := getD_some (l := tv) (i := i + 1) (by rw [HTL.out]; exact hone)
          rw [hb1] at hts
          have cT2 := HDW.out (17, u) _ _ (own_bool HOTR.out hts)
          have hiE : (i : Int) + 1 < (l.length : Int) := by omega
          have hi10 : (0 : Int) ≤ (i : Int) + 1 := by omega
          have hit : ((i : Int) + 1).toNat = i + 1 := by omega
          clear hm hts hone hb hb1 hah
          cases b <;> cases b1
          all_goals
            first
              | have HM2 := Lib.hid (show me1 = me ||| pc from hmu)
              | have HM2 := Lib.hid (show me1 = me from hmu)
            clear hmu
            go_wp2_with fail
            go_roundg (gk - 1)
            case measure => have := HMI.out; omega
            case rel => exact ⟨i + 1, by have := HMI.out; omega, by go_num, by rw [HME1.out, HM2.out], by rw [HC2.out]; go_num, HX.out⟩
        · -- 18
          have hone := HTA.out.one (.inl rfl)
          obtain ⟨b1, hb1⟩ : ∃ b, tv.getD (i + 1) false = b := ⟨_, rfl⟩
          have hm : metB 18 es tv i = (b || !b1) := by rw [metB, if_neg (by decide), if_pos rfl, hb, hb1]
          rw [hm] at hmu
          have hts := getD_some (l := tv) (i := i + 1) (by rw [HTL.out]; exact hone)
          rw [hb1] at hts
          have cT2 := HDW.out (18, u) _ _ (own_bool HOTR.out hts)
          have hiE : (i : Int) + 1 < (l.length : Int) := by omega
          have hi10 : (0 : Int) ≤ (i : Int) + 1 := by omega
          have hit : ((i : Int) + 1).toNat = i + 1 := by omega
          clear hm hts hone hb hb1 hah
          cases b <;> cases b1
          all_goals
            first
              | have HM2 := Lib.hid (show me1 = me ||| pc from hmu)
              | have HM2 := Lib.hid (show me1 = me from hmu)
            clear hmu
            go_wp2_with fail
            go_roundg (gk - 1)
            case measure => have := HMI.out; omega
            case rel => exact ⟨i + 1, by have := HMI.out; omega, by go_num, by rw [HME1.out, HM2.out], by rw [HC2.out]; go_num, HX.out⟩
    · obtain rfl : i = l.length := by omega
      have hiI : ¬ (l.length : Int) < (l.length : Int) := by omega
      have HEW := Lib.hid (HE2.out.trans hE)
      clear hE hmi
      generalize hml : meUp l es tv l.length = me at *
      have HML := Lib.hid hml
      clear hml
      go_wp2
      go_ret2
      exact ⟨by rw [HML.out]; rfl, HEW.out⟩

end Go.Proofs.YtbmimdnpchldlaaGreatDoor

namespace Go.Proofs.YtbmimdnpchldlaaGreatDoor

/-- Does an op that looks ahead keep its law, from one moment to the next? -/
def keepB (k : Int) (es : List Int) (now next : List Bool) (i : Nat) : Bool :=
  if k = 14 then now.getD i false == next.getD (i + 1) false
  else if k = 17 then now.getD i false == (now.getD (i + 1) false || next.getD i false)
  else if k = 18 then now.getD i false == (now.getD (i + 1) false && next.getD i false)
  else if k = 15 then now.getD i false == (now.getD (secAt es i) false || (now.getD (i + 1) false && next.getD i false))
  else now.getD i false == (now.getD (secAt es i) false && (now.getD (i + 1) false || next.getD i false))

/-- All of the first ones do. -/
def folB (l : List Op2) (es : List Int) (now next : List Bool) : Nat → Bool
  | 0 => true
  | i + 1 => folB l es now next i && (!aheadB (l.getD i (0, 0)).1 || keepB (l.getD i (0, 0)).1 es now next i)
theorem folB_iff (l : List Op2) (es : List Int) (now next : List Bool) : ∀ m, folB l es now next m = true ↔ ∀ p, p < m → aheadB (l.getD p (0, 0)).1 = true → keepB (l.getD p (0, 0)).1 es now next p = true
  | 0 => by simp [folB]
  | m + 1 => by
    rw [folB, Bool.and_eq_true, folB_iff l es now next m, Bool.or_eq_true, Bool.not_eq_true']
    constructor
    · rintro ⟨h1, h2⟩ p hp ha
      by_cases e : p = m
      · subst e
        rcases h2 with h2 | h2
        · rw [h2] at ha; cases ha
        · exact h2
      · exact h1 p (by omega) ha
    · intro h
      refine ⟨fun p hp => h p (by omega), ?_⟩
      cases ha : aheadB (l.getD m (0, 0)).1
      · exact .inl rfl
      · exact .inr (h m (by omega) ha)

section
variable {n back : Nat} {a b r : Nat → Bool}
theorem until_fair (hb : back < n) (hr : ∀ i, i < n → r i = (b i || (a i && r (nxt n back i)))) (hm : ∃ i, back ≤ i ∧ i < n ∧ (!r i || b i) = true) : ∀ i, i < n → (r i = true ↔ UntilP n back (fun j => a j = true) (fun j => b j = true) i) := by
  intro i hi
  constructor
  · intro h
    apply Classical.byContradiction
    intro hu
    have key : ∀ j, r (nxtN n back j i) = true ∧ ¬ UntilP n back (fun j => a j = true) (fun j => b j = true) (nxtN n back j i) := by
      intro j
      induction j with
      | zero => exact ⟨h, hu⟩
      | succ j ih =>
        obtain ⟨h1, h2⟩ := ih
        have e : nxtN n back (j + 1) i = nxt n back (nxtN n back j i) := by rw [nxtN_add]; rfl
        have hx := nxtN_lt hb j i hi
        rw [e]
        generalize nxtN n back j i = x at *
        rw [until_iff] at h2
        rw [hr x hx] at h1
        simp only [Bool.or_eq_true, Bool.and_eq_true] at h1
        rcases h1 with h1 | ⟨h1, h3⟩
        · exact absurd (.inl h1) h2
        · exact ⟨h3, fun h4 => h2 (.inr ⟨h1, h4⟩)⟩
    obtain ⟨i0, h0, h1, h2⟩ := hm
    obtain ⟨j, hj⟩ := nxtN_reach hi (k := i0) (by omega) h1 hb
    obtain ⟨k1, k2⟩ := key j
    rw [hj] at k1 k2
    rw [k1] at h2
    exact k2 ⟨0, (show b i0 = true by simpa using h2), fun m hm => by omega⟩
  · rintro ⟨j, h1, h2⟩
    induction j generalizing i with
    | zero => rw [hr i hi]; rw [show b i = true from h1]; rfl
    | succ j ih =>
      have h3 := ih (nxt n back i) (nxt_lt hb) h1 fun m hm => h2 (m + 1) (by omega)
      have h4 : a i = true := h2 0 (by omega)
      rw [hr i hi, h3, h4]; simp
theorem rel_fair (hb : back < n) (hr : ∀ i, i < n → r i = (b i && (a i || r (nxt n back i)))) (hm : ∃ i, back ≤ i ∧ i < n ∧ (r i || !b i) = true) : ∀ i, i < n → (r i = true ↔ RelP n back (fun j => a j = true) (fun j => b j = true) i) := by
  intro i hi
  have h := until_fair (a := fun j => !a j) (b := fun j => !b j) (r := fun j => !r j) hb (fun i hi => by
    show (!r i) = _
    rw [hr i hi]; simp [Bool.not_and, Bool.not_or]) (by
    obtain ⟨i, h1, h2, h3⟩ := hm
    exact ⟨i, h1, h2, by simpa using h3⟩) i hi
  rw [rel_not, ← not_congr (h.trans (until_congr (fun j => by simp) (fun j => by simp) i))]
  simp
end

/-- The truths of all terms along a word, with claims. -/
def tvW (W : Wd) (c : Nat → Nat) (t : Tm) (i : Nat) : List Bool := tvT (W.ls.getD i []) (c i) t 0

theorem getD_of {l : List Bool} {i : Nat} {b : Bool} (h : l[i]? = some b) : l.getD i false = b := by simp [List.getD, h]
theorem getD_op {l : List Op2} {i : Nat} {o : Op2} (h : l[i]? = some o) : l.getD i (0, 0) = o := by simp [List.getD, h]

section
variable {W : Wd} {t : Tm} (ht : t.ok) {props : Int} (hfit : ∀ o ∈ t.flat, FitOp props o) {c : Nat → Nat}
include ht hfit
/-- With the claims of what holds the truths are what holds. -/
theorem claims_sat (hc : ∀ i, i < W.n → ∀ p s, (subs t)[p]? = some s → aheadB s.kd = true → (c i).testBit (cntA (t.flat.take p)) = satB W s i) :
    ∀ m p, t.size ≤ p + m → ∀ s, (subs t)[p]? = some s → ∀ i, i < W.n → (tvW W c t i).getD p false = satB W s i := by
  intro m
  induction m with
  | zero =>
    intro p hp s hs
    have := (List.getElem?_eq_some_iff.1 hs).1
    rw [subs_len] at this
    omega
  | succ m ih =>
    intro p hp s hs i hi
    have hps : p < t.size := by have := (List.getElem?_eq_some_iff.1 hs).1; rwa [subs_len] at this
    obtain ⟨s', hS⟩ := subs_at t ht p hps
    obtain rfl : s = s' := by have := hS.sub; rw [hs] at this; exact Option.some.inj this
    have hf := hfit _ (List.mem_of_getElem? hS.op)
    have hV : TvAt (W.ls.getD i []) (c i) t.flat (t.ends 0) (tvW W c t i) p s.kd s.vl := tv_at _ _ t ht p _ _ hS.op
    cases hah : aheadB s.kd with
    | true => rw [getD_of (hV.ah hah), hc i hi p s hs hah]
    | false =>
      rcases tm_cases hS.ok hf with ⟨v, rfl, _, _⟩ | rfl | rfl | ⟨a, rfl⟩ | ⟨a, rfl⟩ | ⟨a, rfl⟩ | ⟨a, rfl⟩ | ⟨a, b, rfl⟩ | ⟨a, b, rfl⟩ | ⟨a, b, rfl⟩ | ⟨a, b, rfl⟩
      · rw [getD_of (hV.prop rfl), satB_prop]; rfl
      · rw [getD_of (hV.yes rfl), satB_yes]
      · rw [getD_of (hV.no rfl), satB_no]
      · rw [getD_of (hV.not rfl), satB_not, ih (p + 1) (by omega) a (hS.one _ _ _ rfl) i hi]
      · cases hah
      · cases hah
      · cases hah
      · obtain ⟨g1, -, g3, g4⟩ := hS.two _ _ _ _ rfl
        rw [getD_of (hV.and rfl), satB_and, ih (p + 1) (by omega) a g1 i hi, ih _ (by omega) b g4 i hi]
      · obtain ⟨g1, -, g3, g4⟩ := hS.two _ _ _ _ rfl
        rw [getD_of (hV.or rfl), satB_or, ih (p + 1) (by omega) a g1 i hi, ih _ (by omega) b g4 i hi]
      · cases hah
      · cases hah
end

section
variable {W : Wd} (hb : W.back < W.n) {t : Tm} (ht : t.ok) {props : Int} (hfit : ∀ o ∈ t.flat, FitOp props o) {c : Nat → Nat}
include hb ht hfit

/-- A line that keeps all laws, and in which nothing waits for ever, tells what holds. -/
theorem line_sat (hk : ∀ i, i < W.n → ∀ p, p < t.size → aheadB (t.flat.getD p (0, 0)).1 = true → keepB (t.flat.getD p (0, 0)).1 (t.ends 0) (tvW W c t i) (tvW W c t (nxt W.n W.back i)) p = true)
    (hm : ∀ p, p < t.size → aheadB (t.flat.getD p (0, 0)).1 = true → ∃ i, W.back ≤ i ∧ i < W.n ∧ metB (t.flat.getD p (0, 0)).1 (t.ends 0) (tvW W c t i) p = true) :
    ∀ m p, t.size ≤ p + m → ∀ s, (subs t)[p]? = some s → ∀ i, i < W.n → (tvW W c t i).getD p false = satB W s i := by
  intro m
  induction m with
  | zero =>
    intro p hp s hs
    have := (List.getElem?_eq_some_iff.1 hs).1
    rw [subs_len] at this
    omega
  | succ m ih =>
    intro p hp s hs i hi
    have hps : p < t.size := by have := (List.getElem?_eq_some_iff.1 hs).1; rwa [subs_len] at this
    obtain ⟨s', hS⟩ := subs_at t ht p hps
    obtain rfl : s = s' := by have := hS.sub; rw [hs] at this; exact Option.some.inj this
    have hf := hfit _ (List.mem_of_getElem? hS.op)
    have hop := getD_op hS.op
    have hV : ∀ i, TvAt (W.ls.getD i []) (c i) t.flat (t.ends 0) (tvW W c t i) p s.kd s.vl := fun i => tv_at _ _ t ht p _ _ hS.op
    have hk' := fun i hi => hk i hi p hps
    have hm' := hm p hps
    rw [hop] at hm'
    simp only [hop] at hk'
    rcases tm_cases hS.ok hf with ⟨v, rfl, _, _⟩ | rfl | rfl | ⟨a, rfl⟩ | ⟨a, rfl⟩ | ⟨a, rfl⟩ | ⟨a, rfl⟩ | ⟨a, b, rfl⟩ | ⟨a, b, rfl⟩ | ⟨a, b, rfl⟩ | ⟨a, b, rfl⟩
    · rw [getD_of ((hV i).prop rfl), satB_prop]; rfl
    · rw [getD_of ((hV i).yes rfl), satB_yes]
    · rw [getD_of ((hV i).no rfl), satB_no]
    · rw [getD_of ((hV i).not rfl), satB_not, ih (p + 1) (by omega) a (hS.one _ _ _ rfl) i hi]
    · have h := hk' i hi rfl
      have h1 := ih (p + 1) (by omega) a (hS.one _ _ _ rfl) _ (nxt_lt (i := i) hb)
      simp only [Tm.kd, keepB, if_true, beq_iff_eq] at h
      rw [h, h1, satB_next]
    · have h1 := ih (p + 1) (by omega) a (hS.one _ _ _ rfl)
      have := until_fair (r := fun i => (tvW W c t i).getD p false) (a := fun _ => true) (b := satB W a) hb (fun i hi => by
        have h := hk' i hi rfl
        simp only [Tm.kd, keepB, show ¬ (17 : Int) = 14 by decide, if_true, if_false, beq_iff_eq] at h
        rw [h1 i hi] at h
        simpa using h) (by
        obtain ⟨i, e1, e2, e3⟩ := hm' rfl
        refine ⟨i, e1, e2, ?_⟩
        simp only [Tm.kd, metB, if_true] at e3
        rw [h1 i e2] at e3
        exact e3) i hi
      exact Bool.eq_iff_iff.2 (this.trans (satB_fin W 0 a i).symm)
    · have h1 := ih (p + 1) (by omega) a (hS.one _ _ _ rfl)
      have := rel_fair (r := fun i => (tvW W c t i).getD p false) (a := fun _ => false) (b := satB W a) hb (fun i hi => by
        have h := hk' i hi rfl
        simp only [Tm.kd, keepB, show ¬ (18 : Int) = 14 by decide, show ¬ (18 : Int) = 17 by decide, if_true, if_false, beq_iff_eq] at h
        rw [h1 i hi] at h
        simpa using h) (by
        obtain ⟨i, e1, e2, e3⟩ := hm' rfl
        refine ⟨i, e1, e2, ?_⟩
        simp only [Tm.kd, metB, show ¬ (18 : Int) = 17 by decide, if_true, if_false] at e3
        rw [h1 i e2] at e3
        exact e3) i hi
      exact Bool.eq_iff_iff.2 (this.trans (satB_glo W 0 a i).symm)
    · obtain ⟨g1, -, g3, g4⟩ := hS.two _ _ _ _ rfl
      rw [getD_of ((hV i).and rfl), satB_and, ih (p + 1) (by omega) a g1 i hi, ih _ (by omega) b g4 i hi]
    · obtain ⟨g1, -, g3, g4⟩ := hS.two _ _ _ _ rfl
      rw [getD_of ((hV i).or rfl), satB_or, ih (p + 1) (by omega) a g1 i hi, ih _ (by omega) b g4 i hi]
    · obtain ⟨g1, -, g3, g4⟩ := hS.two _ _ _ _ rfl
      have h1 := ih (p + 1) (by omega) a g1
      have h2 := ih _ (by omega) b g4
      have := until_fair (r := fun i => (tvW W c t i).getD p false) (a := satB W a) (b := satB W b) hb (fun i hi => by
        have h := hk' i hi rfl
        simp only [Tm.kd, keepB, show ¬ (15 : Int) = 14 by decide, show ¬ (15 : Int) = 17 by decide, show ¬ (15 : Int) = 18 by decide, if_true, if_false, beq_iff_eq] at h
        rw [h1 i hi, h2 i hi] at h
        exact h) (by
        obtain ⟨i, e1, e2, e3⟩ := hm' rfl
        refine ⟨i, e1, e2, ?_⟩
        simp only [Tm.kd, metB, show ¬ (15 : Int) = 17 by decide, show ¬ (15 : Int) = 18 by decide, if_true, if_false] at e3
        rw [h2 i e2] at e3
        exact e3) i hi
      exact Bool.eq_iff_iff.2 (this.trans (satB_unt W 0 a b i).symm)
    · obtain ⟨g1, -, g3, g4⟩ := hS.two _ _ _ _ rfl
      have h1 := ih (p + 1) (by omega) a g1
      have h2 := ih _ (by omega) b g4
      have := rel_fair (r := fun i => (tvW W c t i).getD p false) (a := satB W a) (b := satB W b) hb (fun i hi => by
        have h := hk' i hi rfl
        simp only [Tm.kd, keepB, show ¬ (16 : Int) = 14 by decide, show ¬ (16 : Int) = 17 by decide, show ¬ (16 : Int) = 18 by decide, show ¬ (16 : Int) = 15 by decide, if_false, beq_iff_eq] at h
        rw [h1 i hi, h2 i hi] at h
        exact h) (by
        obtain ⟨i, e1, e2, e3⟩ := hm' rfl
        refine ⟨i, e1, e2, ?_⟩
        simp only [Tm.kd, metB, show ¬ (16 : Int) = 17 by decide, show ¬ (16 : Int) = 18 by decide, show ¬ (16 : Int) = 15 by decide, if_true, if_false] at e3
        rw [h2 i e2] at e3
        exact e3) i hi
      exact Bool.eq_iff_iff.2 (this.trans (satB_rel W 0 a b i).symm)

/-- And it is a line. -/
theorem sat_keeps (hs : ∀ p s, (subs t)[p]? = some s → ∀ i, i < W.n → (tvW W c t i).getD p false = satB W s i) (i : Nat) (hi : i < W.n) (p : Nat) (hp : p < t.size) (ha : aheadB (t.flat.getD p (0, 0)).1 = true) :
    keepB (t.flat.getD p (0, 0)).1 (t.ends 0) (tvW W c t i) (tvW W c t (nxt W.n W.back i)) p = true := by
  obtain ⟨s, hS⟩ := subs_at t ht p hp
  have hf := hfit _ (List.mem_of_getElem? hS.op)
  have hx := nxt_lt (i := i) hb
  rw [getD_op hS.op] at ha ⊢
  have h0 := hs p s hS.sub
  rcases tm_cases hS.ok hf with ⟨v, rfl, _, _⟩ | rfl | rfl | ⟨a, rfl⟩ | ⟨a, rfl⟩ | ⟨a, rfl⟩ | ⟨a, rfl⟩ | ⟨a, b, rfl⟩ | ⟨a, b, rfl⟩ | ⟨a, b, rfl⟩ | ⟨a, b, rfl⟩
  · cases ha
  · cases ha
  · cases ha
  · cases ha
  · have h1 := hs _ _ (hS.one _ _ _ rfl)
    simp only [Tm.kd, keepB, if_true, beq_iff_eq]
    rw [h0 i hi, h1 _ hx, satB_next]
  · have h1 := hs _ _ (hS.one _ _ _ rfl)
    simp only [Tm.kd, keepB, show ¬ (17 : Int) = 14 by decide, if_true, if_false, beq_iff_eq]
    rw [h0 i hi, h1 _ hi, h0 _ hx, now_fin]
  · have h1 := hs _ _ (hS.one _ _ _ rfl)
    simp only [Tm.kd, keepB, show ¬ (18 : Int) = 14 by decide, show ¬ (18 : Int) = 17 by decide, if_true, if_false, beq_iff_eq]
    rw [h0 i hi, h1 _ hi, h0 _ hx, now_glo]
  · cases ha
  · cases ha
  · obtain ⟨g1, -, g3, g4⟩ := hS.two _ _ _ _ rfl
    simp only [Tm.kd, keepB, show ¬ (15 : Int) = 14 by decide, show ¬ (15 : Int) = 17 by decide, show ¬ (15 : Int) = 18 by decide, if_true, if_false, beq_iff_eq]
    rw [h0 i hi, hs _ _ g1 _ hi, hs _ _ g4 _ hi, h0 _ hx, now_unt]
  · obtain ⟨g1, -, g3, g4⟩ := hS.two _ _ _ _ rfl
    simp only [Tm.kd, keepB, show ¬ (16 : Int) = 14 by decide, show ¬ (16 : Int) = 17 by decide, show ¬ (16 : Int) = 18 by decide, show ¬ (16 : Int) = 15 by decide, if_false, beq_iff_eq]
    rw [h0 i hi, hs _ _ g1 _ hi, hs _ _ g4 _ hi, h0 _ hx, now_rel]

theorem sat_meets (hs : ∀ p s, (subs t)[p]? = some s → ∀ i, i < W.n → (tvW W c t i).getD p false = satB W s i) (p : Nat) (hp : p < t.size) (ha : aheadB (t.flat.getD p (0, 0)).1 = true) :
    ∃ i, W.back ≤ i ∧ i < W.n ∧ metB (t.flat.getD p (0, 0)).1 (t.ends 0) (tvW W c t i) p = true := by
  obtain ⟨s, hS⟩ := subs_at t ht p hp
  have hf := hfit _ (List.mem_of_getElem? hS.op)
  rw [getD_op hS.op] at ha ⊢
  have h0 := hs p s hS.sub
  have hin : ∀ j, W.back ≤ nxtN W.n W.back j W.back ∧ nxtN W.n W.back j W.back < W.n := fun j => ⟨by have := nxtN_min (n := W.n) (back := W.back) j W.back; omega, nxtN_lt hb j _ hb⟩
  rcases tm_cases hS.ok hf with ⟨v, rfl, _, _⟩ | rfl | rfl | ⟨a, rfl⟩ | ⟨a, rfl⟩ | ⟨a, rfl⟩ | ⟨a, rfl⟩ | ⟨a, b, rfl⟩ | ⟨a, b, rfl⟩ | ⟨a, b, rfl⟩ | ⟨a, b, rfl⟩
  · cases ha
  · cases ha
  · cases ha
  · cases ha
  · exact ⟨W.back, Nat.le_refl _, hb, rfl⟩
  · have h1 := hs _ _ (hS.one _ _ _ rfl)
    simp only [Tm.kd, metB, if_true]
    cases hx : satB W (.n1 17 0 a) W.back
    · exact ⟨W.back, Nat.le_refl _, hb, by rw [h0 _ hb, hx]; rfl⟩
    · rw [satB_iff, sat_fin] at hx
      obtain ⟨j, hj⟩ := hx
      exact ⟨_, (hin j).1, (hin j).2, by rw [h1 _ (hin j).2, satB_iff.2 hj]; simp⟩
  · have h1 := hs _ _ (hS.one _ _ _ rfl)
    simp only [Tm.kd, metB, show ¬ (18 : Int) = 17 by decide, if_true, if_false]
    cases hx : satB W (.n1 18 0 a) W.back
    · have hx' : ¬ Sat W (.n1 18 0 a) W.back := fun h => by rw [satB_iff.2 h] at hx; cases hx
      rw [sat_glo] at hx'
      obtain ⟨j, hj⟩ := Classical.not_forall.1 hx'
      exact ⟨_, (hin j).1, (hin j).2, by
        have e : satB W a (nxtN W.n W.back j W.back) = false := by
          cases e : satB W a (nxtN W.n W.back j W.back)
          · rfl
          · exact absurd (satB_iff.1 e) hj
        rw [h1 _ (hin j).2, e]; simp⟩
    · exact ⟨W.back, Nat.le_refl _, hb, by rw [h0 _ hb, hx]; rfl⟩
  · cases ha
  · cases ha
  · obtain ⟨g1, -, g3, g4⟩ := hS.two _ _ _ _ rfl
    simp only [Tm.kd, metB, show ¬ (15 : Int) = 17 by decide, show ¬ (15 : Int) = 18 by decide, if_true, if_false]
    cases hx : satB W (.n2 15 0 a b) W.back
    · exact ⟨W.back, Nat.le_refl _, hb, by rw [h0 _ hb, hx]; rfl⟩
    · rw [satB_iff, sat_unt] at hx
      obtain ⟨j, hj, _⟩ := hx
      exact ⟨_, (hin j).1, (hin j).2, by rw [hs _ _ g4 _ (hin j).2, satB_iff.2 hj]; simp⟩
  · obtain ⟨g1, -, g3, g4⟩ := hS.two _ _ _ _ rfl
    simp only [Tm.kd, metB, show ¬ (16 : Int) = 17 by decide, show ¬ (16 : Int) = 18 by decide, show ¬ (16 : Int) = 15 by decide, if_true, if_false]
    cases hx : satB W (.n2 16 0 a b) W.back
    · have hx' : ¬ Sat W (.n2 16 0 a b) W.back := fun h => by rw [satB_iff.2 h] at hx; cases hx
      rw [sat_rel, rel_not] at hx'
      obtain ⟨j, hj, _⟩ := Classical.not_not.1 hx'
      exact ⟨_, (hin j).1, (hin j).2, by
        have e : satB W b (nxtN W.n W.back j W.back) = false := by
          cases e : satB W b (nxtN W.n W.back j W.back)
          · rfl
          · exact absurd (satB_iff.1 e) hj
        rw [hs _ _ g4 _ (hin j).2, e]; simp⟩
    · exact ⟨W.back, Nat.le_refl _, hb, by rw [h0 _ hb, hx]; rfl⟩
end

end Go.Proofs.YtbmimdnpchldlaaGreatDoor
