/- Several texts in one: PrA; PrC; ShTk. No condition. -/
import Derived.Test.YtfcaomejbcjfgaaGreatDoorKx24
import Derived.Test.YtfcaomejbcjfgaaGreatDoorKx21
import Derived.Test.YtfcaomejbcjfgaaGreatDoorKx12
import Derived.Test.YtfcaomejbcjfgaaGreatDoorKx10
import Derived.Deep.DeepCutAuto
import Derived.Deep.RegionLaw
import Derived.Test.YtfcaomejbcjfgaaGreatDoorKx19
import Derived.Test.YtfcaomejbcjfgaaGreatDoorKx11
namespace Go.Proofs.YtfcaomejbcjfgaaGreatDoor
open Go.RowKit
structure IsTask (w : World) (vv rv pv fv : Value) (m : Md) (P : List Tm) (t : Tm) : Prop where
  md : IsMd w vv rv m
  pr : IsTms w pv P
  fo : IsT w fv t
theorem IsTask.ext {w w' : World} {vv rv pv fv : Value} {m : Md} {P : List Tm} {t : Tm} (h : IsTask w vv rv pv fv m P t) (hE : Ext w w') : IsTask w' vv rv pv fv m P t := ⟨h.md.ext hE, h.pr.ext hE, h.fo.ext hE⟩
structure TkOk (m : Md) (P : List Tm) (t : Tm) : Prop where
  ok : m.Ok
  v0 : 0 < m.vars.length
  pk : PropsOk m.vars.length P
  ff : IsF t.flat (P.length : Int) t
theorem IsTask.val {w : World} {vv rv pv fv : Value} {m : Md} {P : List Tm} {t : Tm} (h : IsTask w vv rv pv fv m P t) : ∃ av cv ar cr ap cp af nf cf, vv = .slice av m.vars.length cv ∧ rv = .slice ar m.rules.length cr ∧ pv = .slice ap P.length cp ∧ fv = .slice af nf cf := by
  obtain ⟨av, cv, rfl⟩ := EachL.val h.md.vars
  obtain ⟨ar, cr, rfl⟩ := EachL.val h.md.rules
  obtain ⟨ap, cp, rfl⟩ := EachL.val h.pr
  obtain ⟨af, nf, cf, rfl⟩ := h.fo.val
  exact ⟨av, cv, ar, cr, ap, cp, af, nf, cf, rfl, rfl, rfl, rfl⟩
end Go.Proofs.YtfcaomejbcjfgaaGreatDoor

namespace Go.Proofs.YtfcaomejbcjfgaaGreatDoor
open Go.RowKit
theorem forO_ok (raw : List Op2) (tempo : Nat) (h : tempo ≤ 6) : IsF (forO raw 3 tempo).flat 3 (forO raw 3 tempo) where
  ok := fT_ok raw 3 4 0 tempo
  flat := rfl
  small := by have := fT_small raw 3 4 tempo; unfold forO; omega
  fit := fT_fit raw 3 4 0 tempo
  cnt := by have := fT_cnt raw 3 4 0 tempo; unfold forO; omega
  p0 := by omega
  p6 := by omega
theorem task_ok (d : Dn) (raw : List Op2) (tempo : Nat) (h : tempo ≤ 6) : TkOk d.md propT (forO raw 3 tempo) :=
  ⟨d.drawn.ok, by rw [d.drawn.two]; omega, by rw [d.drawn.two]; exact propT_ok, forO_ok raw tempo h⟩
abbrev nilV : Value := .slice none 0 0
theorem blkR_ne {w : World} {R b k : Nat} {T : TypeId} {u : Value} (hR : w.heap[R]? = some (.cells #[nilV, nilV, nilV, nilV] T (0, 0))) (hc : w.cell? ⟨b, k, none⟩ = some u) (hu : u ≠ nilV) : b ≠ R := by
  intro e
  subst e
  simp only [World.cell?, hR] at hc
  match k, hc with
  | 0, hc => simp at hc; exact hu hc.symm
  | 1, hc => simp at hc; exact hu hc.symm
  | 2, hc => simp at hc; exact hu hc.symm
  | 3, hc => simp at hc; exact hu hc.symm
  | k + 4, hc => simp at hc
theorem reads_R {w w' : World} {R sz n : Nat} {T : TypeId} {v : Value} {xs : List Value} (h : Reads w sz v n xs) (hR : w.heap[R]? = some (.cells #[nilV, nilV, nilV, nilV] T (0, 0))) (hg : w.grownBy w' (some R)) (hx : xs = [] ∨ ∃ (j : Nat) (u : Value), xs[j]? = some u ∧ u ≠ nilV) : Reads w' sz v n xs := by
  refine Reads.grown h hg ?_
  rcases hx with rfl | ⟨j, u, hj, hu⟩
  · exact .inl rfl
  · refine .inr (.inr fun e => ?_)
    obtain ⟨a, c, rfl, hr⟩ := h
    obtain ⟨b, off, _, h2, h3⟩ := hr.lie
    obtain rfl := h2 (getElem?_pos hj)
    simp [Value.ownBlock] at e
    exact blkR_ne hR (h3 j u hj) hu e
theorem isT_R {w w' : World} {R : Nat} {T : TypeId} {v : Value} {t : Tm} (h : IsT w v t) (hR : w.heap[R]? = some (.cells #[nilV, nilV, nilV, nilV] T (0, 0))) (hg : w.grownBy w' (some R)) : IsT w' v t := by
  refine reads_R h hR hg (.inr ?_)
  have hp : 0 < t.flat.length := by rw [Tm.flat_len]; exact t.size_pos
  cases hf : t.flat with
  | nil => rw [hf] at hp; simp at hp
  | cons o r => exact ⟨0, .int .i64 o.1, by simp [opc], by simp⟩
theorem isT_ne {w : World} {v : Value} {t : Tm} (h : IsT w v t) : v ≠ nilV := by
  obtain ⟨a, c, rfl, _⟩ := h
  intro e
  simp only [Value.slice.injEq] at e
  have := t.size_pos
  rw [Tm.flat_len] at e
  omega
theorem EachL.R {α : Type} {sz : Nat} {E : World → α → List Value → Prop} {w w' : World} {R : Nat} {T : TypeId} {v : Value} {l : List α} (h : EachL sz E w v l) (hR : w.heap[R]? = some (.cells #[nilV, nilV, nilV, nilV] T (0, 0))) (hg : w.grownBy w' (some R)) (hE : ∀ x cs, E w x cs → E w' x cs ∧ ∃ u r, cs = u :: r ∧ u ≠ nilV) : EachL sz E w' v l := by
  obtain ⟨css, h1, h2, h3, h4⟩ := h
  refine ⟨css, h1, h2, reads_R h3 hR hg ?_, fun i cs x a b => (hE x cs (h4 i cs x a b)).1⟩
  cases css with
  | nil => exact .inl rfl
  | cons cs r =>
    cases l with
    | nil => simp at h1
    | cons x l =>
      obtain ⟨_, u, q, rfl, hu⟩ := hE x cs (h4 0 cs x rfl rfl)
      exact .inr ⟨0, u, by simp, hu⟩
theorem IsMd.R {w w' : World} {R : Nat} {T : TypeId} {vv rv : Value} {m : Md} (h : IsMd w vv rv m) (hR : w.heap[R]? = some (.cells #[nilV, nilV, nilV, nilV] T (0, 0))) (hg : w.grownBy w' (some R)) : IsMd w' vv rv m := by
  refine ⟨EachL.R h.vars hR hg fun x cs hx => ⟨hx, ?_⟩, EachL.R h.rules hR hg fun x cs hx => ?_⟩
  · have hx' : cs = vrc x := hx
    subst hx'
    exact ⟨_, _, rfl, by simp⟩
  · obtain ⟨g, t, rfl, hgT, hs⟩ := hx
    refine ⟨⟨g, t, rfl, isT_R hgT hR hg, EachL.R hs hR hg fun y ds hy => ?_⟩, g, [t], rfl, isT_ne hgT⟩
    obtain ⟨v, rfl, hv⟩ := hy
    exact ⟨⟨v, rfl, isT_R hv hR hg⟩, _, _, rfl, by simp⟩
theorem IsTms.R {w w' : World} {R : Nat} {T : TypeId} {v : Value} {l : List Tm} (h : IsTms w v l) (hR : w.heap[R]? = some (.cells #[nilV, nilV, nilV, nilV] T (0, 0))) (hg : w.grownBy w' (some R)) : IsTms w' v l :=
  EachL.R h hR hg fun x cs hx => by
    obtain ⟨v, rfl, hv⟩ := hx
    exact ⟨⟨v, rfl, isT_R hv hR hg⟩, _, _, rfl, isT_ne hv⟩
theorem grown_setP (w : World) (p : Addr) (u : Value) : w.grownBy (w.setCell p u) (some p.block) :=
  ⟨rfl, rfl, rfl, by simp, fun b _ hn => Below.heap_setCell _ _ _ _ (fun e => hn (by rw [e]))⟩
theorem set4 (a b c d u : Value) : (#[a, b, c, d].setIfInBounds 0 u) = #[u, b, c, d] ∧ (#[a, b, c, d].setIfInBounds 1 u) = #[a, u, c, d] ∧ (#[a, b, c, d].setIfInBounds 2 u) = #[a, b, u, d] ∧ (#[a, b, c, d].setIfInBounds 3 u) = #[a, b, c, u] := by simp
set_option maxRecDepth 100000 in
set_option maxHeartbeats 8000000 in
theorem task_any (pv fr : Value) (d : Dn) (raw : List Op2) (tempo : Nat) (w : World) (hpl : IsPlans w pv d.rules) (hd : DnI d) (hr : Ops w fr raw) (hR : RawF raw) (h6 : tempo ≤ 6) :
    Calls Tryz.prog 4 #[.agg (dnc d pv), fr, .int .i64 (tempo : Int)] w fun e w' => ∃ vv rv qv fv, e = .returned (.agg #[vv, rv, qv, fv]) ∧ IsTask w' vv rv qv fv d.md propT (forO raw 3 tempo) ∧ Ext w w' := by
  have HMO := Lib.hid fun wx (hx : Ext w wx) => model_any pv d wx (hpl.ext hx) hd
  have HFO := Lib.hid fun wx (hx : Ext w wx) => mkFormula fr raw 3 tempo wx (ops_ext hr hx) hR (by omega) (by omega) (by omega)
  obtain ⟨af, nf, cf, rfl⟩ : ∃ a n c, fr = .slice a n c := by
    obtain ⟨a, c, rfl, _⟩ := hr
    exact ⟨_, _, _, rfl⟩
  have hx0 := ext_al (Ext.refl w) (Obj.cells (dnc d pv) 25)
  have hb0 := blk_new w (Obj.cells (dnc d pv) 25)
  have hx1 := ext_al (Ext.refl (w.alloc (Obj.cells (dnc d pv) 25))) (Obj.cells #[.slice none 0 0, .slice none 0 0, .slice none 0 0, .slice none 0 0] 34)
  have hb1 := blk_new (w.alloc (Obj.cells (dnc d pv) 25)) (Obj.cells #[.slice none 0 0, .slice none 0 0, .slice none 0 0, .slice none 0 0] 34)
  rw [World.size_alloc] at hb1
  have HX1 := Lib.hid (hx0.trans hx1)
  have HR1 := Lib.hid hb1
  have hbd := blk_ext hb0 hx1
  simp only [dnc] at HMO HX1 HR1 hbd ⊢
  have e0 := blk_cell hbd (i := 0) rfl
  have e1 := blk_cell hbd (i := 1) rfl
  have e2 := blk_cell hbd (i := 2) rfl
  have e3 := blk_cell hbd (i := 3) rfl
  have e4 := blk_cell hbd (i := 4) rfl
  have e5 := blk_cell hbd (i := 5) rfl
  have e6 := blk_cell hbd (i := 6) rfl
  generalize d.md = m at *
  clear hpl hd hr hx0 hb0 hx1 hb1 hbd
  go_enter Tryz.func4, Tryz.ntmps4
  go_wp2_with fail
  refine (HMO.out _ HX1.out).mono ?_
  rintro e w2 ⟨vv, rv, rfl, hM2, hE2⟩
  obtain ⟨av, cv, rfl⟩ := EachL.val hM2.vars
  obtain ⟨ar, cr, rfl⟩ := EachL.val hM2.rules
  have HM2 := Lib.hid hM2
  have HX2 := Lib.hid (HX1.out.trans hE2)
  have HR2 := Lib.hid (blk_ext HR1.out hE2)
  clear hM2 hE2 e0 e1 e2 e3 e4 e5 e6
  go_wp2_with fail
  refine (kprops_any w2).mono ?_
  rintro e w3 ⟨qv, rfl, hQ3, hE3⟩
  obtain ⟨aq, cq, rfl⟩ := EachL.val hQ3
  have HQ3 := Lib.hid hQ3
  have HE3 := Lib.hid hE3
  clear hQ3 hE3
  go_wp2_with fail
  refine (HFO.out _ (HX2.out.trans HE3.out)).mono ?_
  rintro e w4 ⟨fv, rfl, ho4, hE4⟩
  have hT4 := isT_own ho4
  obtain ⟨af2, nf2, cf2, rfl⟩ := hT4.val
  have hR4 := blk_ext HR2.out (HE3.out.trans hE4)
  have HTK := Lib.hid (show IsTask w4 (.slice av m.vars.length cv) (.slice ar m.rules.length cr) (.slice aq propT.length cq) (.slice af2 nf2 cf2) m propT (forO raw 3 tempo) from ⟨HM2.out.ext (HE3.out.trans hE4), HQ3.out.ext hE4, hT4⟩)
  have HX4 := Lib.hid (HX2.out.trans (HE3.out.trans hE4))
  clear ho4 hE4 hT4 HM2 HQ3 HFO HMO
  generalize propT.length = np at *
  generalize m.vars.length = nv at *
  generalize m.rules.length = nr at *
  have HR4 := Lib.hid hR4
  have r0 := blk_cell hR4 (i := 0) rfl
  have f0 := blk_free hR4 0
  have h1 := blk_set (i := 0) hR4 (.slice av nv cv)
  rw [(set4 _ _ _ _ _).1] at h1
  have r1 := blk_cell h1 (i := 1) rfl
  have f1 := blk_free h1 1
  have h2 := blk_set (i := 1) h1 (.slice ar nr cr)
  rw [(set4 _ _ _ _ _).2.1] at h2
  have r2 := blk_cell h2 (i := 2) rfl
  have f2 := blk_free h2 2
  have h3 := blk_set (i := 2) h2 (.slice aq np cq)
  rw [(set4 _ _ _ _ _).2.2.1] at h3
  have r3 := blk_cell h3 (i := 3) rfl
  have f3 := blk_free h3 3
  have h4 := blk_set (i := 3) h3 (.slice af2 nf2 cf2)
  rw [(set4 _ _ _ _ _).2.2.2] at h4
  have H4 := Lib.hid h4
  clear hR4 h1 h2 h3 h4
  go_wp2
  have z0 := blk_cell H4.out (i := 0) rfl
  have z1 := blk_cell H4.out (i := 1) rfl
  have z2 := blk_cell H4.out (i := 2) rfl
  have z3 := blk_cell H4.out (i := 3) rfl
  have hg := (((grown_setP w4 ⟨w.heap.size + 1, 0, none⟩ (.slice av nv cv)).trans' (grown_setP _ ⟨w.heap.size + 1, 1, none⟩ (.slice ar nr cr))).trans' (grown_setP _ ⟨w.heap.size + 1, 2, none⟩ (.slice aq np cq))).trans' (grown_setP _ ⟨w.heap.size + 1, 3, none⟩ (.slice af2 nf2 cf2))
  refine bodyPost_ret (v := .agg #[.slice av nv cv, .slice ar nr cr, .slice aq np cq, .slice af2 nf2 cf2]) (by simp [results, Tryz.results4, go_sem, z0, z1, z2, z3]) rfl ⟨_, _, _, _, rfl, ⟨HTK.out.md.R HR4.out hg, IsTms.R HTK.out.pr HR4.out hg, isT_R HTK.out.fo HR4.out hg⟩, ?_⟩
  exact ext_st (ext_st (ext_st (ext_st HX4.out (by show w.heap.size ≤ w.heap.size + 1; omega) _) (by show w.heap.size ≤ w.heap.size + 1; omega) _) (by show w.heap.size ≤ w.heap.size + 1; omega) _) (by show w.heap.size ≤ w.heap.size + 1; omega) _
end Go.Proofs.YtfcaomejbcjfgaaGreatDoor

namespace Go.Proofs.YtfcaomejbcjfgaaGreatDoor
open Go Go.RowKit
def rrOf (r : Rl) : Rr := ⟨r.guard.flat, r.sets.map fun s => (s.1, s.2.flat)⟩
def rtOf (m : Md) (P : List Tm) (t : Tm) : Rt := ⟨m.vars, m.rules.map rrOf, P.map Tm.flat, t.flat⟩
theorem EachL.map {α β : Type} {sz : Nat} {E : World → α → List Value → Prop} {E' : World → β → List Value → Prop} {w : World} {v : Value} {l : List α} (f : α → β) (hf : ∀ a cs, E w a cs → E' w (f a) cs) (h : EachL sz E w v l) : EachL sz E' w v (l.map f) := by
  obtain ⟨css, h1, h2, h3, h4⟩ := h
  refine ⟨css, by simpa using h1, h2, by simpa using h3, fun i cs b hc hb => ?_⟩
  rw [List.getElem?_map] at hb
  obtain ⟨a, ha, rfl⟩ := Option.map_eq_some_iff.1 hb
  exact hf a cs (h4 i cs a hc ha)
theorem IsTask.rt {w : World} {vv rv pv fv : Value} {m : Md} {P : List Tm} {t : Tm} (h : IsTask w vv rv pv fv m P t) : IsRt w vv rv pv fv (rtOf m P t) := by
  refine ⟨h.md.vars, ?_, ?_, h.fo⟩
  · refine EachL.map rrOf (fun r cs hr => ?_) h.md.rules
    obtain ⟨g, s, h1, h2, h3⟩ := hr
    exact ⟨g, s, h1, h2, EachL.map (fun s : Int × Tm => (s.1, s.2.flat)) (fun s cs hs => hs) h3⟩
  · exact EachL.map Tm.flat (fun t cs ht => ht) h.pr
theorem kind_sub {t : Tm} {n : Nat} (h : Sub t n) (hs : t.size ≤ 60) (hn : n ≤ 6) : KindG t.flat n (mkK t.kind) := by
  unfold KindG
  rw [check_tree t n (by omega) (by omega) h.ok hs h.good, if_pos h.typed]
theorem TkOk.taskG {m : Md} {P : List Tm} {t : Tm} (h : TkOk m P t) : TaskG (rtOf m P t) := by
  have h6 := h.ok.six
  refine ⟨⟨⟨⟨h6, h.ok.vars, h.ok.names, h.ok.count⟩, by simpa [rtOf] using h.ok.twelve, ?_⟩, by simpa [rtOf] using h.pk.six, ?_⟩, ?_⟩
  · intro r hr
    obtain ⟨r0, hr0, rfl⟩ := List.mem_map.1 hr
    have hp := h.ok.rules r0 hr0
    obtain ⟨k1, k2⟩ := h.ok.kinds r0 hr0
    refine ⟨by simpa [rrOf] using hp.many, ?_, ?_, by simpa [rrOf, Function.comp_def] using k2⟩
    · have := kind_sub hp.guard hp.gsize h6
      rwa [k1] at this
    · intro s hs
      obtain ⟨s0, hs0, rfl⟩ := List.mem_map.1 hs
      obtain ⟨a1, a2, a3, a4, a5⟩ := hp.sets s0 hs0
      refine ⟨a1, a2, ?_⟩
      have := kind_sub a3 a4 h6
      rwa [a5] at this
  · intro p hp
    obtain ⟨p0, hp0, rfl⟩ := List.mem_map.1 hp
    obtain ⟨a1, a2, a3⟩ := h.pk.each p0 hp0
    have := kind_sub a1 a2 h6
    rwa [a3] at this
  · have hf := h.ff
    refine ⟨by simp [rtOf], by have := hf.p6; simpa [rtOf] using this, ⟨_, ends_term t hf.ok hf.small⟩, by simpa [rtOf] using hf.fit, hf.cnt⟩
theorem flatMap_le {α : Type} (f : α → List UInt8) (n : Nat) : ∀ l : List α, (∀ a ∈ l, (f a).length ≤ n) → (l.flatMap f).length ≤ n * l.length
  | [], _ => by simp
  | a :: l, h => by
    have h1 := h a (by simp)
    have h2 := flatMap_le f n l fun x hx => h x (List.mem_cons_of_mem _ hx)
    simp only [List.flatMap_cons, List.length_append, List.length_cons, Nat.mul_add, Nat.mul_one]
    omega
structure SmallD (t : Rt) : Prop where
  vars : t.vars.length ≤ 2
  rules : t.rules.length ≤ 5
  guard : ∀ r ∈ t.rules, r.guard.length ≤ 26
  sets : ∀ r ∈ t.rules, r.sets.length ≤ 2
  vals : ∀ r ∈ t.rules, ∀ s ∈ r.sets, s.2.length ≤ 7
  props : t.props.length ≤ 3
  each : ∀ p ∈ t.props, p.length ≤ 3
  form : t.form.length ≤ 60
theorem SmallD.len {t : Rt} (h : SmallD t) (hg : TaskG t) : (showL t).length ≤ 9000 := by
  have hv := hg.pr.md.vars.fit
  have lw : ∀ l : List Op2, (∀ o ∈ l, OpFit t.vars.length o) → (wordsL t.vars l).length ≤ 23 * l.length + 1 := fun l hl => by
    have := opsL_len hv hl
    simp only [wordsL, List.length_append, List.length_cons, List.length_nil]
    omega
  have l1 : (t.vars.flatMap varL).length ≤ 90 * t.vars.length := by
    refine flatMap_le varL 90 _ fun v hvm => ?_
    have f := hv v hvm
    have a1 := itoa_len f.low
    have a2 := itoa_len f.high
    have a3 := itoa_len f.init
    have a4 := f.name
    have a5 : v.name.data.toList.length = v.name.size := by rw [Lib.size_eq]
    simp only [varL, List.length_append, List.length_cons, List.length_nil]
    omega
  have l2 : (t.rules.flatMap (ruleL t.vars)).length ≤ 1000 * t.rules.length := by
    refine flatMap_le (ruleL t.vars) 1000 _ fun r hr => ?_
    have g := hg.pr.md.rules r hr
    have b1 := lw r.guard g.guard.fit
    have b2 := h.guard r hr
    have b3 : (r.sets.flatMap (setTx t.vars)).length ≤ 180 * r.sets.length := by
      refine flatMap_le (setTx t.vars) 180 _ fun s hs => ?_
      have c1 := lw s.2 (g.sets s hs).2.2.fit
      have c2 := h.vals r hr s hs
      have c3 := nameL_len hv s.1
      simp only [setTx, List.length_append, List.length_cons, List.length_nil]
      omega
    have b4 := h.sets r hr
    simp only [ruleL, List.length_append, List.length_cons, List.length_nil]
    omega
  have l3 : (t.props.flatMap (propL t.vars)).length ≤ 80 * t.props.length := by
    refine flatMap_le (propL t.vars) 80 _ fun p hp => ?_
    have c1 := lw p (hg.pr.each p hp).fit
    have c2 := h.each p hp
    simp only [propL, List.length_append, List.length_cons, List.length_nil]
    omega
  have l4 : (checkT t.vars t.form).length ≤ 1400 := by
    have c1 := lw t.form (hg.fo.opfit _)
    have c2 := h.form
    simp only [checkT, List.length_append, List.length_cons, List.length_nil]
    omega
  have v1 := h.vars
  have v2 := h.rules
  have v3 := h.props
  simp only [showL, List.length_append]
  omega
theorem dn_rule (d : Dn) {P : List Tm} {t : Tm} {r : Rr} (hr : r ∈ (rtOf d.md P t).rules) : ∃ p ∈ d.rules.take 5, r = rrOf (dRule p) := by
  obtain ⟨r0, hr0, rfl⟩ := List.mem_map.1 hr
  obtain ⟨p, hp, rfl⟩ := List.mem_map.1 hr0
  exact ⟨p, hp, rfl⟩
theorem dn_small (d : Dn) (raw : List Op2) (tempo : Nat) (h : tempo ≤ 6) : SmallD (rtOf d.md propT (forO raw 3 tempo)) := by
  have hf := (forO_ok raw tempo h).small
  refine ⟨Nat.le_refl _, by simpa [rtOf] using d.drawn.five, ?_, ?_, ?_, Nat.le_refl _, ?_, by show (Tm.flat _).length ≤ 60; rw [Tm.flat_len]; exact hf⟩
  · intro r hr
    obtain ⟨p, _, rfl⟩ := dn_rule d hr
    show (Tm.flat _).length ≤ 26
    rw [Tm.flat_len]
    exact truT_small p.guard 2
  · intro r hr
    obtain ⟨p, _, rfl⟩ := dn_rule d hr
    show ((dSets p).map _).length ≤ 2
    rw [List.length_map, dSets]
    split <;> simp
  · intro r hr s hs
    obtain ⟨p, _, rfl⟩ := dn_rule d hr
    obtain ⟨s0, hs0, rfl⟩ := List.mem_map.1 hs
    show (Tm.flat _).length ≤ 7
    rw [Tm.flat_len]
    have h1 : (numO p.value 2).size ≤ 7 := numT_two p.value 2 0
    have h0 : s0 ∈ dSets p := hs0
    rw [dSets] at h0
    rcases List.mem_cons.1 h0 with rfl | h0
    · exact h1
    · split at h0
      · simp at h0
        subst h0
        simp [Tm.size]
      · simp at h0
  · intro p hp
    have : ∀ p ∈ propT.map Tm.flat, p.length ≤ 3 := by decide
    exact this p hp
end Go.Proofs.YtfcaomejbcjfgaaGreatDoor
