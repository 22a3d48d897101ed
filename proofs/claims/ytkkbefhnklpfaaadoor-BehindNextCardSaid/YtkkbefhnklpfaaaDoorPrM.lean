/- Several texts in one: PrA; PrB; PrC; PrD. No condition. -/
import Derived.Test.YtkkbefhnklpfaaaDoorMdY
import Derived.Test.YtkkbefhnklpfaaaDoorTruM
import Derived.Test.YtkkbefhnklpfaaaDoorFormM
import Derived.Deep.DeepCutAuto
import Derived.Deep.RegionLaw
namespace Go.Proofs.YtkkbefhnklpfaaaDoor
open Go.RowKit

/-- A value is a task. -/
structure IsTask (w : World) (vv rv pv fv : Value) (m : Md) (P : List Tm) (t : Tm) : Prop where
  md : IsMd w vv rv m
  pr : IsTms w pv P
  fo : IsT w fv t
theorem IsTask.ext {w w' : World} {vv rv pv fv : Value} {m : Md} {P : List Tm} {t : Tm} (h : IsTask w vv rv pv fv m P t) (hE : Ext w w') : IsTask w' vv rv pv fv m P t := ⟨h.md.ext hE, h.pr.ext hE, h.fo.ext hE⟩
/-- .. that may be one. -/
structure TkOk (m : Md) (P : List Tm) (t : Tm) : Prop where
  ok : m.Ok
  v0 : 0 < m.vars.length
  pk : PropsOk m.vars.length P
  ff : IsF t.flat (P.length : Int) t

theorem IsTask.val {w : World} {vv rv pv fv : Value} {m : Md} {P : List Tm} {t : Tm} (h : IsTask w vv rv pv fv m P t) : ∃ av cv ar cr ap cp af nf cf, vv = .slice av m.vars.length cv ∧ rv = .slice ar m.rules.length cr ∧ pv = .slice ap P.length cp ∧ fv = .slice af nf cf := by
  obtain ⟨av, cv, rfl⟩ := EachL.val h.md.vars
  obtain ⟨ar, cr, rfl⟩ := EachL.val h.md.rules
  obtain ⟨ap, cp, rfl⟩ := EachL.val h.pr
  obtain ⟨af, nf, cf, rfl⟩ := h.fo.val
  exact ⟨av, cv, ar, cr, ap, cp, af, nf, cf, rfl, rfl, rfl, rfl⟩

set_option maxRecDepth 100000 in
set_option maxHeartbeats 4000000 in
theorem pcheck_any (vv rv pv fv : Value) (m : Md) (P : List Tm) (t : Tm) (w : World) (h : IsTask w vv rv pv fv m P t) (ht : Tab w) (hk : TkOk m P t) :
    Calls Tryd.prog 25 #[.agg #[vv, rv, pv, fv]] w fun e w' => e = .returned (.int .i64 0) ∧ Ext w w' := by
  have HPR := Lib.hid fun wx (hx : Ext w wx) => props_any vv rv pv m P wx (h.md.ext hx) (ht.ext hx) hk.ok (h.pr.ext hx) hk.pk
  have HLC := Lib.hid fun wx (hx : Ext w wx) => lcheck_ok fv t.flat (P.length : Int) t wx (h.fo.ext hx) (ht.ext hx) hk.ff
  obtain ⟨av, cv, ar, cr, ap, cp, af, nf, cf, rfl, rfl, rfl, rfl⟩ := h.val
  generalize m.vars.length = nv at *
  generalize m.rules.length = nr at *
  generalize P.length = np at *
  clear h ht hk
  have hb := blk_new w (Obj.cells #[.slice av nv cv, .slice ar nr cr, .slice ap np cp, .slice af nf cf] 49)
  have HE := Lib.hid (ext_al (Ext.refl w) (Obj.cells #[.slice av nv cv, .slice ar nr cr, .slice ap np cp, .slice af nf cf] 49))
  have HB := Lib.hid hb
  have d0 := blk_cell hb (i := 0) rfl
  have d1 := blk_cell hb (i := 1) rfl
  have d2 := blk_cell hb (i := 2) rfl
  clear hb
  go_enter Tryd.func25, Tryd.ntmps25
  go_wp2_with fail
  generalize w.alloc (Obj.cells #[.slice av nv cv, .slice ar nr cr, .slice ap np cp, .slice af nf cf] 49) = W1 at *
  refine (HPR.out _ HE.out).mono ?_
  rintro e w2 ⟨rfl, hE2⟩
  have HX2 := Lib.hid (HE.out.trans hE2)
  have d2 := blk_cell (blk_ext HB.out hE2) (i := 2) rfl
  have d3 := blk_cell (blk_ext HB.out hE2) (i := 3) rfl
  clear hE2 d0 d1
  go_wp2_with fail
  refine (HLC.out _ HX2.out).mono ?_
  rintro e w3 ⟨rfl, hE3⟩
  have HX3 := Lib.hid (HX2.out.trans hE3)
  clear hE3
  go_wp2
  go_ret
  exact ⟨rfl, HX3.out⟩

theorem pow_wrap {k : Nat} (h : k ≤ 6) : wrap64 ((2 : Int) ^ k) = ((2 ^ k : Nat) : Int) := by
  have : k = 0 ∨ k = 1 ∨ k = 2 ∨ k = 3 ∨ k = 4 ∨ k = 5 ∨ k = 6 := by omega
  rcases this with rfl | rfl | rfl | rfl | rfl | rfl | rfl <;> simp [wrap64]

set_option maxRecDepth 100000 in
set_option maxHeartbeats 4000000 in
theorem claims_n (vv rv pv fv : Value) (m : Md) (P : List Tm) (t : Tm) (w : World) (h : IsTask w vv rv pv fv m P t) (ht : Tab w) (hk : TkOk m P t) :
    Calls Tryd.prog 33 #[.agg #[vv, rv, pv, fv]] w fun e w' => e = .returned (.int .i64 ((2 ^ cntA t.flat : Nat) : Int)) ∧ Ext w w' := by
  have HPL := Lib.hid fun wx (hx : Ext w wx) => places_any fv t.flat (P.length : Int) t wx (h.fo.ext hx) (ht.ext hx) hk.ff
  have hc6 := hk.ff.cnt
  have hpl := plL_len t.flat
  obtain ⟨av, cv, ar, cr, ap, cp, af, nf, cf, rfl, rfl, rfl, rfl⟩ := h.val
  generalize m.vars.length = nv at *
  generalize m.rules.length = nr at *
  generalize P.length = np at *
  clear h ht hk
  have hb := blk_new w (Obj.cells #[.slice av nv cv, .slice ar nr cr, .slice ap np cp, .slice af nf cf] 49)
  have HE := Lib.hid (ext_al (Ext.refl w) (Obj.cells #[.slice av nv cv, .slice ar nr cr, .slice ap np cp, .slice af nf cf] 49))
  have d2 := blk_cell hb (i := 2) rfl
  have d3 := blk_cell hb (i := 3) rfl
  clear hb
  have HLL := Lib.hid hpl
  clear hpl
  obtain ⟨k, hk⟩ : ∃ k, cntA t.flat = k := ⟨_, rfl⟩
  rw [hk] at hc6 HLL ⊢
  clear hk
  go_enter Tryd.func33, Tryd.ntmps33
  go_wp2_with fail
  generalize w.alloc (Obj.cells #[.slice av nv cv, .slice ar nr cr, .slice ap np cp, .slice af nf cf] 49) = W1 at *
  refine (HPL.out _ HE.out).mono ?_
  rintro e w2 ⟨a2, c2, rfl, ho2, hE2⟩
  have HX2 := Lib.hid (HE.out.trans hE2)
  rw [HLL.out]
  clear hE2 ho2 d2 d3
  have HPW := Lib.hid (pow_wrap hc6)
  go_wp2_with fail
  go_ret
  exact ⟨congrArg (fun z => Ending.returned (.int .i64 z)) HPW.out, HX2.out⟩

end Go.Proofs.YtkkbefhnklpfaaaDoor

namespace Go.Proofs.YtkkbefhnklpfaaaDoor
open Go.RowKit

theorem Tryd.slSpots : SlTy Tryd.prog 52 59 (.agg #[.int .i64 0, .int .i64 0]) 2 16 := SlTy.mk' Tryd.underlying52 (by kernel_rfl) (by rfl) (by omega)
def spc (s : Int × Int) : List Value := [.int .i64 s.1, .int .i64 s.2]
/-- Spots of a state with claims below a number that say that the formula does not hold. -/
def begL (fi : Int) (L : List Bool) (t : Tm) (i : Nat) : List (Int × Int) := ((List.range i).filter fun c => !(tvT L c t 0).head?.getD false).map fun c : Nat => (fi, (c : Int))
theorem begL_yes {fi : Int} {L : List Bool} {t : Tm} {i : Nat} (h : (tvT L i t 0).head?.getD false = false) : begL fi L t (i + 1) = begL fi L t i ++ [(fi, (i : Int))] := by
  unfold begL
  rw [List.range_succ, List.filter_append, List.map_append]
  simp [h]
theorem begL_no {fi : Int} {L : List Bool} {t : Tm} {i : Nat} (h : (tvT L i t 0).head?.getD false = true) : begL fi L t (i + 1) = begL fi L t i := by
  unfold begL
  rw [List.range_succ, List.filter_append, List.map_append]
  simp [h]
theorem begL_len (fi : Int) (L : List Bool) (t : Tm) (i : Nat) : (begL fi L t i).length ≤ i := by
  unfold begL
  rw [List.length_map]
  exact Nat.le_trans (List.length_filter_le _ _) (by simp)

set_option maxRecDepth 100000 in
set_option maxHeartbeats 8000000 in
theorem begin_any (vv rv pv fv : Value) (m : Md) (P : List Tm) (t : Tm) (w : World) (h : IsTask w vv rv pv fv m P t) (ht : Tab w) (hk : TkOk m P t) :
    Calls Tryd.prog 15 #[.agg #[vv, rv, pv, fv]] w fun e w' => ∃ v, e = .returned (.tuple #[v, .int .i64 0]) ∧
      w'.ownsRow w.heap.size 59 2 v (begL m.first (letS P (valsL m.vars m.first)) t (2 ^ cntA t.flat)).length ((begL m.first (letS P (valsL m.vars m.first)) t (2 ^ cntA t.flat)).flatMap spc) ∧ Ext w w' := by
  have HCK := Lib.hid fun wx (hx : Ext w wx) => pcheck_any vv rv pv fv m P t wx (h.ext hx) (ht.ext hx) hk
  have HCL := Lib.hid fun wx (hx : Ext w wx) => claims_n vv rv pv fv m P t wx (h.ext hx) (ht.ext hx) hk
  have HFI := Lib.hid fun wx (hx : Ext w wx) => first_any vv rv m wx (h.md.ext hx) (ht.ext hx) hk.ok
  have hfb := codeL_bd hk.ok.vars (inits_in hk.ok.vars)
  have HLE := Lib.hid fun wx (hx : Ext w wx) => sletter_any vv rv pv m P m.first wx (h.md.ext hx) (ht.ext hx) hk.ok (h.pr.ext hx) hk.pk hfb.1 hfb.2
  have hll := letS_len P (valsL m.vars m.first)
  have HTR := Lib.hid fun (vl : Value) (c : Nat) wx (hx : Ext w wx) (hL : Bools wx vl (letS P (valsL m.vars m.first))) (hc : c < 2 ^ cntA t.flat) => truths_any fv t.flat t vl (letS P (valsL m.vars m.first)) c wx (h.fo.ext hx) (ht.ext hx) (by rw [hll]; exact hk.ff) hL hc
  have hc6 := hk.ff.cnt
  have hp2 : 2 ^ cntA t.flat ≤ 64 := by
    have := Nat.pow_le_pow_right (n := 2) (by omega) hc6
    simpa using this
  have hfl : 0 < t.flat.length := by rw [Tm.flat_len]; exact t.size_pos
  have hf60 : t.flat.length ≤ 60 := by rw [Tm.flat_len]; exact hk.ff.small
  have HTL := Lib.hid fun (L : List Bool) (c : Nat) => (show 0 < (tvT L c t 0).length by rw [tvT_len]; exact t.size_pos)
  obtain ⟨av, cv, ar, cr, ap, cp, af, nf, cf, rfl, rfl, rfl, rfl⟩ := h.val
  obtain ⟨fi, hfi⟩ : ∃ x, m.first = x := ⟨_, rfl⟩
  rw [hfi] at HFI HLE HTR hll ⊢
  obtain ⟨L, hL⟩ : ∃ x, letS P (valsL m.vars fi) = x := ⟨_, rfl⟩
  rw [hL] at HLE HTR hll ⊢
  obtain ⟨N, hN⟩ : ∃ x, 2 ^ cntA t.flat = x := ⟨_, rfl⟩
  rw [hN] at HCL HTR hp2 ⊢
  clear h ht hk hfi hL hN hfb hc6
  generalize m.vars.length = nv at *
  generalize m.rules.length = nr at *
  generalize hnp : P.length = np at *
  have HLL := Lib.hid hll
  have hb := blk_new w (Obj.cells #[.slice av nv cv, .slice ar nr cr, .slice ap np cp, .slice af nf cf] 49)
  have HE := Lib.hid (ext_al (Ext.refl w) (Obj.cells #[.slice av nv cv, .slice ar nr cr, .slice ap np cp, .slice af nf cf] 49))
  have HB := Lib.hid hb
  have d0 := blk_cell hb (i := 0) rfl
  have d1 := blk_cell hb (i := 1) rfl
  have d2 := blk_cell hb (i := 2) rfl
  have d3 := blk_cell hb (i := 3) rfl
  clear hb hll hnp
  go_enter Tryd.func15, Tryd.ntmps15
  go_wp2_with fail
  generalize w.alloc (Obj.cells #[.slice av nv cv, .slice ar nr cr, .slice ap np cp, .slice af nf cf] 49) = W1 at *
  refine (HCK.out _ HE.out).mono ?_
  rintro e w2 ⟨rfl, hE2⟩
  have HX2 := Lib.hid (HE.out.trans hE2)
  have HY2 := Lib.hid hE2
  have d0 := blk_cell (blk_ext HB.out hE2) (i := 0) rfl
  have d1 := blk_cell (blk_ext HB.out hE2) (i := 1) rfl
  clear hE2 d2 d3
  go_wp2_with fail
  refine (HFI.out _ HX2.out).mono ?_
  rintro e w3 ⟨rfl, hE3⟩
  have HX3 := Lib.hid (HX2.out.trans hE3)
  have HY3 := Lib.hid (HY2.out.trans hE3)
  have hb3 := blk_ext HB.out HY3.out
  have d0 := blk_cell hb3 (i := 0) rfl
  have d1 := blk_cell hb3 (i := 1) rfl
  have d2 := blk_cell hb3 (i := 2) rfl
  clear hE3 hb3
  go_wp2_with fail
  refine (HLE.out _ HX3.out).mono ?_
  rintro e w4 ⟨v4, rfl, ho4, hE4⟩
  obtain ⟨a4, c4, rfl, _⟩ := id ho4.row
  have HBO := Lib.hid (show Bools w4 (.slice a4 np c4) L from by
    have h := ho4.reads
    unfold Bools
    rw [HLL.out]
    exact h)
  have HX4 := Lib.hid (HX3.out.trans hE4)
  have HY4 := Lib.hid (HY3.out.trans hE4)
  have hb4 := blk_ext HB.out HY4.out
  have d0 := blk_cell hb4 (i := 0) rfl
  have d1 := blk_cell hb4 (i := 1) rfl
  have d2 := blk_cell hb4 (i := 2) rfl
  have d3 := blk_cell hb4 (i := 3) rfl
  clear hE4 hb4 ho4
  go_wp2_with fail
  refine (HCL.out _ HX4.out).mono ?_
  rintro e w5 ⟨rfl, hE5⟩
  have HX5 := Lib.hid (HX4.out.trans hE5)
  have HY5 := Lib.hid (HY4.out.trans hE5)
  have HBO5 := Lib.hid (HBO.out.ext hE5)
  clear hE5 d0 d1 d2 d3
  have HO0 := Lib.hid (show w5.ownsRow w5.heap.size 59 2 (.slice none 0 0) (begL fi L t 0).length ((begL fi L t 0).flatMap spc) from World.ownsRow_nil _ _ _ _)
  have HBL := Lib.hid fun i => begL_len fi L t i
  go_wp2_with fail
  go_loopg [35, 9] N (fun g x y wr => ∃ (i : Nat) (ab : Option Addr) (cb : Nat), g + i = N ∧ x = .int .i64 (i : Int) ∧ y = .slice ab (begL fi L t i).length cb ∧ Ext w5 wr ∧ wr.ownsRow w5.heap.size 59 2 (.slice ab (begL fi L t i).length cb) (begL fi L t i).length ((begL fi L t i).flatMap spc))
  case atStart => exact ⟨0, none, 0, by omega, by go_num, rfl, Ext.refl _, HO0.out⟩
  case round =>
    obtain ⟨i, ab, cb, hgi, rfl, rfl, hE, hO⟩ := hrel
    have HGI := Lib.hid hgi
    have HEE := Lib.hid hE
    have HOO := Lib.hid hO
    clear HO0
    by_cases hi : i < N
    · have hbr := blk_ext HB.out (HY5.out.trans hE)
      have d2 := blk_cell hbr (i := 2) rfl
      have d3 := blk_cell hbr (i := 3) rfl
      have HTC := Lib.hid (HTR.out _ i wr (HX5.out.trans hE) (HBO5.out.ext hE) hi)
      have hbl := HBL.out i
      have HYS := Lib.hid fun h => begL_yes (fi := fi) (L := L) (t := t) (i := i) h
      have HNO := Lib.hid fun h => begL_no (fi := fi) (L := L) (t := t) (i := i) h
      have hiI : (i : Int) < (N : Int) := by omega
      have hi0 : (0 : Int) ≤ (i : Int) := by omega
      obtain ⟨q, hq⟩ : ∃ q, (tvT L i t 0).head?.getD false = q := ⟨_, rfl⟩
      have HQ := Lib.hid (show (tvT L i t 0)[0]? = some q from by
        have h1 := HTL.out L i
        cases hv : tvT L i t 0 with
        | nil => rw [hv] at h1; simp at h1
        | cons b r => rw [hv] at hq; simp at hq; subst hq; rfl)
      rw [hq] at HYS HNO
      generalize tvT L i t 0 = tv at *
      obtain ⟨nb, hnb⟩ : ∃ x, (begL fi L t i).length = x := ⟨_, rfl⟩
      rw [hnb] at HOO hbl ⊢
      have HNB := Lib.hid hnb
      obtain ⟨nl, hnl⟩ : ∃ x, t.flat.length = x := ⟨_, rfl⟩
      rw [hnl] at HTC hfl hf60
      clear hgi hE hO hbr hq hnb hnl
      go_wp2_with fail
      refine HTC.out.mono ?_
      rintro e w6 ⟨D, rfl, ho6, hE6⟩
      have c0 := own_bool ho6 HQ.out
      have HE6 := Lib.hid (HEE.out.trans hE6)
      have HO6 := Lib.hid (own_ext HOO.out hE6)
      clear ho6 hE6 d2 d3
      cases q
      · have HO7 := Lib.hid fun (o : Obj) => own_ext HO6.out (ext_al (Ext.refl w6) o)
        have hs6 := HE6.out.size
        go_wp2_with (at_builtin; go_must (refine wpl_append rfl rfl Tryd.slSpots w5.heap.size rfl (HO7.out _) rfl (Row.newK _ _ 2 _ _ rfl rfl) (by intro u hu; simp only [List.mem_cons, List.not_mem_nil, or_false] at hu; rcases hu with rfl | rfl <;> rfl) (by unfold maxLen; omega) (by omega) (by simp; omega) ?_))
        intro v8 w8 hown8 hg8 hb8 _
        obtain ⟨a8, c8, rfl, _⟩ := id hown8.row
        have hA8 := ext_al (Ext.refl w6) (Obj.cells #[.int .i64 fi, .int .i64 (i : Int)] 59)
        have HE8 := Lib.hid (show Ext w5 w8 from Below.grown (HE6.out.trans hA8) hg8 (HE6.out.trans hA8).size (fun b hb => ((HO7.out (Obj.cells #[] 0)).lt b hb).1))
        have hbe := HYS.out (by first | rfl | trivial)
        have hbl2 : (begL fi L t (i + 1)).length = nb + 1 := by rw [hbe, List.length_append, HNB.out]; rfl
        have HO8 := Lib.hid (show w8.ownsRow w5.heap.size 59 2 (.slice a8 (nb + 1) c8) (begL fi L t (i + 1)).length ((begL fi L t (i + 1)).flatMap spc) from by
          have e1 : (begL fi L t (i + 1)).flatMap spc = (begL fi L t i).flatMap spc ++ [.int .i64 fi, .int .i64 (i : Int)] := by rw [hbe]; simp [spc]
          rw [hbl2, e1]
          exact hown8)
        have HB2 := Lib.hid hbl2
        clear hown8 hg8 hb8 hA8 hbe hbl2 c0
        go_wp2_with fail
        go_roundg (gk - 1)
        case measure => have := HGI.out; omega
        case rel => exact ⟨i + 1, a8, c8, by have := HGI.out; omega, by go_num, by rw [HB2.out], HE8.out, by rw [HB2.out]; rw [HB2.out] at HO8; exact HO8.out⟩
      · have hbe := HNO.out (by first | rfl | trivial)
        have HBE := Lib.hid hbe
        clear hbe
        go_wp2_with fail
        go_roundg (gk - 1)
        case measure => have := HGI.out; omega
        case rel => exact ⟨i + 1, ab, cb, by have := HGI.out; omega, by go_num, by rw [HBE.out, HNB.out], HE6.out, by rw [HBE.out, HNB.out]; exact HO6.out⟩
    · obtain rfl : i = N := by have := HGI.out; omega
      have hiI : ¬ (i : Int) < (i : Int) := by omega
      have hs5 := HX5.out.size
      clear hgi hE hO
      go_wp2
      go_ret2
      exact ⟨_, rfl, own_down HOO.out hs5, HX5.out.trans HEE.out⟩

end Go.Proofs.YtkkbefhnklpfaaaDoor

namespace Go.Proofs.YtkkbefhnklpfaaaDoor
open Go.RowKit

theorem forO_ok (raw : List Op2) (tempo : Nat) (h : tempo ≤ 6) : IsF (forO raw 3 tempo).flat 3 (forO raw 3 tempo) where
  ok := fT_ok raw 3 4 0 tempo
  flat := rfl
  small := by have := fT_small raw 3 4 tempo; unfold forO; omega
  fit := fT_fit raw 3 4 0 tempo
  cnt := by have := fT_cnt raw 3 4 0 tempo; unfold forO; omega
  p0 := by omega
  p6 := by omega
theorem forO_cnt (raw : List Op2) (tempo : Nat) : cntA (forO raw 3 tempo).flat ≤ tempo := by have := fT_cnt raw 3 4 0 tempo; unfold forO; omega
theorem task_ok (d : Dn) (raw : List Op2) (tempo : Nat) (h : tempo ≤ 6) : TkOk d.md propT (forO raw 3 tempo) :=
  ⟨d.drawn.ok, by rw [d.drawn.two]; omega, by rw [d.drawn.two]; exact propT_ok, forO_ok raw tempo h⟩

abbrev nilV : Value := .slice none 0 0
theorem blkR_ne {w : World} {R b k : Nat} {T : TypeId} {u : Value} (hR : w.heap[R]? = some (.cells #[nilV, nilV, nilV, nilV] T (0, 0))) (hc : w.cell? ⟨b, k, none⟩ = some u) (hu : u ≠ nilV) : b ≠ R := by
  intro e
  subst e
  simp only [World.cell?, hR] at hc
  match k, hc with
  | 0, hc => simp at hc; exact hu hc.symm
  | 1, hc => simp at hc; exact hu hc.symm
  | 2, hc => simp at hc; exact hu hc.symm
  | 3, hc => simp at hc; exact hu hc.symm
  | k + 4, hc => simp at hc
theorem reads_R {w w' : World} {R sz n : Nat} {T : TypeId} {v : Value} {xs : List Value} (h : Reads w sz v n xs) (hR : w.heap[R]? = some (.cells #[nilV, nilV, nilV, nilV] T (0, 0))) (hg : w.grownBy w' (some R)) (hx : xs = [] ∨ ∃ (j : Nat) (u : Value), xs[j]? = some u ∧ u ≠ nilV) : Reads w' sz v n xs := by
  refine Reads.grown h hg ?_
  rcases hx with rfl | ⟨j, u, hj, hu⟩
  · exact .inl rfl
  · refine .inr (.inr fun e => ?_)
    obtain ⟨a, c, rfl, hr⟩ := h
    obtain ⟨b, off, _, h2, h3⟩ := hr.lie
    obtain rfl := h2 (getElem?_pos hj)
    simp [Value.ownBlock] at e
    exact blkR_ne hR (h3 j u hj) hu e
theorem isT_R {w w' : World} {R : Nat} {T : TypeId} {v : Value} {t : Tm} (h : IsT w v t) (hR : w.heap[R]? = some (.cells #[nilV, nilV, nilV, nilV] T (0, 0))) (hg : w.grownBy w' (some R)) : IsT w' v t := by
  refine reads_R h hR hg (.inr ?_)
  have hp : 0 < t.flat.length := by rw [Tm.flat_len]; exact t.size_pos
  cases hf : t.flat with
  | nil => rw [hf] at hp; simp at hp
  | cons o r => exact ⟨0, .int .i64 o.1, by simp [opc], by simp⟩
theorem isT_ne {w : World} {v : Value} {t : Tm} (h : IsT w v t) : v ≠ nilV := by
  obtain ⟨a, c, rfl, _⟩ := h
  intro e
  simp only [Value.slice.injEq] at e
  have := t.size_pos
  rw [Tm.flat_len] at e
  omega
theorem EachL.R {α : Type} {sz : Nat} {E : World → α → List Value → Prop} {w w' : World} {R : Nat} {T : TypeId} {v : Value} {l : List α} (h : EachL sz E w v l) (hR : w.heap[R]? = some (.cells #[nilV, nilV, nilV, nilV] T (0, 0))) (hg : w.grownBy w' (some R)) (hE : ∀ x cs, E w x cs → E w' x cs ∧ ∃ u r, cs = u :: r ∧ u ≠ nilV) : EachL sz E w' v l := by
  obtain ⟨css, h1, h2, h3, h4⟩ := h
  refine ⟨css, h1, h2, reads_R h3 hR hg ?_, fun i cs x a b => (hE x cs (h4 i cs x a b)).1⟩
  cases css with
  | nil => exact .inl rfl
  | cons cs r =>
    cases l with
    | nil => simp at h1
    | cons x l =>
      obtain ⟨_, u, q, rfl, hu⟩ := hE x cs (h4 0 cs x rfl rfl)
      exact .inr ⟨0, u, by simp, hu⟩
theorem IsMd.R {w w' : World} {R : Nat} {T : TypeId} {vv rv : Value} {m : Md} (h : IsMd w vv rv m) (hR : w.heap[R]? = some (.cells #[nilV, nilV, nilV, nilV] T (0, 0))) (hg : w.grownBy w' (some R)) : IsMd w' vv rv m := by
  refine ⟨EachL.R h.vars hR hg fun x cs hx => ⟨hx, ?_⟩, EachL.R h.rules hR hg fun x cs hx => ?_⟩
  · have hx' : cs = vrc x := hx
    subst hx'
    exact ⟨_, _, rfl, by simp⟩
  · obtain ⟨g, t, rfl, hgT, hs⟩ := hx
    refine ⟨⟨g, t, rfl, isT_R hgT hR hg, EachL.R hs hR hg fun y ds hy => ?_⟩, g, [t], rfl, isT_ne hgT⟩
    obtain ⟨v, rfl, hv⟩ := hy
    exact ⟨⟨v, rfl, isT_R hv hR hg⟩, _, _, rfl, by simp⟩
theorem IsTms.R {w w' : World} {R : Nat} {T : TypeId} {v : Value} {l : List Tm} (h : IsTms w v l) (hR : w.heap[R]? = some (.cells #[nilV, nilV, nilV, nilV] T (0, 0))) (hg : w.grownBy w' (some R)) : IsTms w' v l :=
  EachL.R h hR hg fun x cs hx => by
    obtain ⟨v, rfl, hv⟩ := hx
    exact ⟨⟨v, rfl, isT_R hv hR hg⟩, _, _, rfl, isT_ne hv⟩
theorem grown_setP (w : World) (p : Addr) (u : Value) : w.grownBy (w.setCell p u) (some p.block) :=
  ⟨rfl, rfl, rfl, by simp, fun b _ hn => Below.heap_setCell _ _ _ _ (fun e => hn (by rw [e]))⟩
theorem set4 (a b c d u : Value) : (#[a, b, c, d].setIfInBounds 0 u) = #[u, b, c, d] ∧ (#[a, b, c, d].setIfInBounds 1 u) = #[a, u, c, d] ∧ (#[a, b, c, d].setIfInBounds 2 u) = #[a, b, u, d] ∧ (#[a, b, c, d].setIfInBounds 3 u) = #[a, b, c, u] := by simp

set_option maxRecDepth 100000 in
set_option maxHeartbeats 8000000 in
theorem task_any (pv fr : Value) (d : Dn) (raw : List Op2) (tempo : Nat) (w : World) (hpl : IsPlans w pv d.rules) (hd : DnI d) (hr : Ops w fr raw) (hR : RawF raw) (h6 : tempo ≤ 6) :
    Calls Tryd.prog 13 #[.agg (dnc d pv), fr, .int .i64 (tempo : Int)] w fun e w' => ∃ vv rv qv fv, e = .returned (.agg #[vv, rv, qv, fv]) ∧ IsTask w' vv rv qv fv d.md propT (forO raw 3 tempo) ∧ Ext w w' := by
  have HMO := Lib.hid fun wx (hx : Ext w wx) => model_any pv d wx (hpl.ext hx) hd
  have HFO := Lib.hid fun wx (hx : Ext w wx) => mkFormula fr raw 3 tempo wx (ops_ext hr hx) hR (by omega) (by omega) (by omega)
  obtain ⟨af, nf, cf, rfl⟩ : ∃ a n c, fr = .slice a n c := by
    obtain ⟨a, c, rfl, _⟩ := hr
    exact ⟨_, _, _, rfl⟩
  have hx0 := ext_al (Ext.refl w) (Obj.cells (dnc d pv) 25)
  have hb0 := blk_new w (Obj.cells (dnc d pv) 25)
  have hx1 := ext_al (Ext.refl (w.alloc (Obj.cells (dnc d pv) 25))) (Obj.cells #[.slice none 0 0, .slice none 0 0, .slice none 0 0, .slice none 0 0] 49)
  have hb1 := blk_new (w.alloc (Obj.cells (dnc d pv) 25)) (Obj.cells #[.slice none 0 0, .slice none 0 0, .slice none 0 0, .slice none 0 0] 49)
  rw [World.size_alloc] at hb1
  have HX1 := Lib.hid (hx0.trans hx1)
  have HR1 := Lib.hid hb1
  have hbd := blk_ext hb0 hx1
  simp only [dnc] at HMO HX1 HR1 hbd ⊢
  have e0 := blk_cell hbd (i := 0) rfl
  have e1 := blk_cell hbd (i := 1) rfl
  have e2 := blk_cell hbd (i := 2) rfl
  have e3 := blk_cell hbd (i := 3) rfl
  have e4 := blk_cell hbd (i := 4) rfl
  have e5 := blk_cell hbd (i := 5) rfl
  have e6 := blk_cell hbd (i := 6) rfl
  generalize d.md = m at *
  clear hpl hd hr hx0 hb0 hx1 hb1 hbd
  go_enter Tryd.func13, Tryd.ntmps13
  go_wp2_with fail
  refine (HMO.out _ HX1.out).mono ?_
  rintro e w2 ⟨vv, rv, rfl, hM2, hE2⟩
  obtain ⟨av, cv, rfl⟩ := EachL.val hM2.vars
  obtain ⟨ar, cr, rfl⟩ := EachL.val hM2.rules
  have HM2 := Lib.hid hM2
  have HX2 := Lib.hid (HX1.out.trans hE2)
  have HR2 := Lib.hid (blk_ext HR1.out hE2)
  clear hM2 hE2 e0 e1 e2 e3 e4 e5 e6
  go_wp2_with fail
  refine (kprops_any w2).mono ?_
  rintro e w3 ⟨qv, rfl, hQ3, hE3⟩
  obtain ⟨aq, cq, rfl⟩ := EachL.val hQ3
  have HQ3 := Lib.hid hQ3
  have HE3 := Lib.hid hE3
  clear hQ3 hE3
  go_wp2_with fail
  refine (HFO.out _ (HX2.out.trans HE3.out)).mono ?_
  rintro e w4 ⟨fv, rfl, ho4, hE4⟩
  have hT4 := isT_own ho4
  obtain ⟨af2, nf2, cf2, rfl⟩ := hT4.val
  have hR4 := blk_ext HR2.out (HE3.out.trans hE4)
  have HTK := Lib.hid (show IsTask w4 (.slice av m.vars.length cv) (.slice ar m.rules.length cr) (.slice aq propT.length cq) (.slice af2 nf2 cf2) m propT (forO raw 3 tempo) from ⟨HM2.out.ext (HE3.out.trans hE4), HQ3.out.ext hE4, hT4⟩)
  have HX4 := Lib.hid (HX2.out.trans (HE3.out.trans hE4))
  clear ho4 hE4 hT4 HM2 HQ3 HFO HMO
  generalize propT.length = np at *
  generalize m.vars.length = nv at *
  generalize m.rules.length = nr at *
  have HR4 := Lib.hid hR4
  have r0 := blk_cell hR4 (i := 0) rfl
  have f0 := blk_free hR4 0
  have h1 := blk_set (i := 0) hR4 (.slice av nv cv)
  rw [(set4 _ _ _ _ _).1] at h1
  have r1 := blk_cell h1 (i := 1) rfl
  have f1 := blk_free h1 1
  have h2 := blk_set (i := 1) h1 (.slice ar nr cr)
  rw [(set4 _ _ _ _ _).2.1] at h2
  have r2 := blk_cell h2 (i := 2) rfl
  have f2 := blk_free h2 2
  have h3 := blk_set (i := 2) h2 (.slice aq np cq)
  rw [(set4 _ _ _ _ _).2.2.1] at h3
  have r3 := blk_cell h3 (i := 3) rfl
  have f3 := blk_free h3 3
  have h4 := blk_set (i := 3) h3 (.slice af2 nf2 cf2)
  rw [(set4 _ _ _ _ _).2.2.2] at h4
  have H4 := Lib.hid h4
  clear hR4 h1 h2 h3 h4
  go_wp2
  have z0 := blk_cell H4.out (i := 0) rfl
  have z1 := blk_cell H4.out (i := 1) rfl
  have z2 := blk_cell H4.out (i := 2) rfl
  have z3 := blk_cell H4.out (i := 3) rfl
  have hg := (((grown_setP w4 ⟨w.heap.size + 1, 0, none⟩ (.slice av nv cv)).trans' (grown_setP _ ⟨w.heap.size + 1, 1, none⟩ (.slice ar nr cr))).trans' (grown_setP _ ⟨w.heap.size + 1, 2, none⟩ (.slice aq np cq))).trans' (grown_setP _ ⟨w.heap.size + 1, 3, none⟩ (.slice af2 nf2 cf2))
  refine bodyPost_ret (v := .agg #[.slice av nv cv, .slice ar nr cr, .slice aq np cq, .slice af2 nf2 cf2]) (by simp [results, Tryd.results13, go_sem, z0, z1, z2, z3]) rfl ⟨_, _, _, _, rfl, ⟨HTK.out.md.R HR4.out hg, IsTms.R HTK.out.pr HR4.out hg, isT_R HTK.out.fo HR4.out hg⟩, ?_⟩
  exact ext_st (ext_st (ext_st (ext_st HX4.out (by show w.heap.size ≤ w.heap.size + 1; omega) _) (by show w.heap.size ≤ w.heap.size + 1; omega) _) (by show w.heap.size ≤ w.heap.size + 1; omega) _) (by show w.heap.size ≤ w.heap.size + 1; omega) _

end Go.Proofs.YtkkbefhnklpfaaaDoor

namespace Go.Proofs.YtkkbefhnklpfaaaDoor
open Go.RowKit

theorem not_isF {t : Tm} {p : Int} (h : IsF t.flat p t) (hs : t.size ≤ 50) : IsF (Tm.n1 10 0 t).flat p (Tm.n1 10 0 t) where
  ok := by
    have h1 := h.ok
    simp only [Tm.ok]
    exact ⟨by omega, by omega, by decide, h1⟩
  flat := rfl
  small := by simp only [Tm.size]; omega
  fit := by
    intro o ho
    simp only [Tm.flat, List.mem_cons] at ho
    rcases ho with rfl | ho
    · exact ⟨by decide, by decide, fun h => absurd h (by decide), fun _ => rfl⟩
    · exact h.fit o ho
  cnt := by
    have h1 := h.cnt
    have : cntA (Tm.n1 10 0 t).flat = cntA t.flat := by simp [Tm.flat, cntA, aheadB]
    omega
  p0 := h.p0
  p6 := h.p6
theorem not_cnt (t : Tm) : cntA (Tm.n1 10 0 t).flat = cntA t.flat := by simp [Tm.flat, cntA, aheadB]
theorem not_head (L : List Bool) (c : Nat) (t : Tm) : (tvT L c (.n1 10 0 t) 0).head?.getD false = !((tvT L c t 0).head?.getD false) := by simp [tvT, aheadB]

/-- Claims below a number with which the formula does not hold. -/
def bcl (L : List Bool) (t : Tm) (i : Nat) : List Nat := (List.range i).filter fun c => !(tvT L c t 0).head?.getD false
theorem begL_bcl (fi : Int) (L : List Bool) (t : Tm) (i : Nat) : begL fi L t i = (bcl L t i).map fun c : Nat => (fi, (c : Int)) := rfl
theorem bcl_lt {L : List Bool} {t : Tm} {i c : Nat} (h : c ∈ bcl L t i) : c < i := by
  have := (List.mem_filter.1 h).1
  simpa using this
theorem bcl_perm (L : List Bool) (t : Tm) (i : Nat) : (bcl L t i ++ bcl L (.n1 10 0 t) i).Perm (List.range i) := by
  have h := List.filter_append_perm (fun c => !(tvT L c t 0).head?.getD false) (List.range i)
  have e : bcl L (.n1 10 0 t) i = (List.range i).filter fun x => !(fun c => !(tvT L c t 0).head?.getD false) x := by
    unfold bcl
    congr 1
    funext c
    rw [not_head]
  rw [e]
  exact h
/-- How often each of eight claims is met. -/
def seenF (l : List Nat) : List Int := (List.range 8).map fun c => ((l.count c : Nat) : Int)
theorem seenF_len (l : List Nat) : (seenF l).length = 8 := by simp [seenF]
theorem seenF_at (l : List Nat) {c : Nat} (_h : c < (seenF l).length) : (seenF l)[c] = ((l.count c : Nat) : Int) := by simp [seenF]
theorem seenF_set (l : List Nat) {c : Nat} : (seenF l).set c (((l.count c : Nat) : Int) + 1) = seenF (l ++ [c]) := by
  apply List.ext_getElem
  · simp [seenF]
  · intro i h1 h2
    rw [List.getElem_set]
    have hi : i < 8 := by simpa [seenF] using h2
    by_cases e : c = i
    · subst e
      simp [seenF, List.count_append]
    · rw [if_neg e]
      simp [seenF, List.count_append, e]
theorem seenF_nil : seenF [] = [0, 0, 0, 0, 0, 0, 0, 0] := by decide
theorem seenF_all {l : List Nat} {N c : Nat} (h : l.Perm (List.range N)) : l.count c = if c < N then 1 else 0 := by rw [h.count_eq, List.count_range]

theorem spots_at {w : World} {a : Option Addr} {n c : Nat} {l : List (Int × Int)} (h : Row w 2 a n c (l.flatMap spc)) : ∃ b off, (0 < l.length → a = some ⟨b, off, none⟩) ∧ ∀ (i : Nat) (hi : i < l.length), w.cell? ⟨b, off + i * 2, none⟩ = some (.int .i64 l[i].1) ∧ w.cell? ⟨b, off + i * 2 + 1, none⟩ = some (.int .i64 l[i].2) := by
  obtain ⟨b, off, _, h2, h3⟩ := h.lie
  have key : ∀ (l : List (Int × Int)) (i : Nat) (hi : i < l.length), (l.flatMap spc)[i * 2]? = some (.int .i64 l[i].1) ∧ (l.flatMap spc)[i * 2 + 1]? = some (.int .i64 l[i].2) := by
    intro l
    induction l with
    | nil => intro i hi; simp at hi
    | cons x r ih =>
      intro i hi
      cases i with
      | zero => simp [spc]
      | succ i =>
        have := ih i (by simpa using hi)
        simp only [List.flatMap_cons, spc]
        rw [show (i + 1) * 2 = i * 2 + 2 by omega, show i * 2 + 2 + 1 = (i * 2 + 1) + 2 by omega]
        simpa using this
  refine ⟨b, off, fun hl => h2 ?_, fun i hi => ⟨h3 _ _ (key l i hi).1, ?_⟩⟩
  · have := (key l 0 hl).1
    exact getElem?_pos this
  · have := h3 _ _ (key l i hi).2
    rwa [← Nat.add_assoc] at this

/-- Four slices. -/
structure Sl4 (x : Array Value) : Prop where
  e : ∃ a b c d a1 a2 a3 b1 b2 b3 c1 c2 c3 d1 d2 d3, x = #[a, b, c, d] ∧ a = .slice a1 a2 a3 ∧ b = .slice b1 b2 b3 ∧ c = .slice c1 c2 c3 ∧ d = .slice d1 d2 d3
theorem isT_S {w w' : World} {Q : Nat} {T : TypeId} {v : Value} {t : Tm} {x : Array Value} (h : IsT w v t) (hx : Sl4 x) (hQ : w.heap[Q]? = some (.cells x T (0, 0))) (hg : w.grownBy w' (some Q)) : IsT w' v t := by
  obtain ⟨a, c, rfl, hr⟩ := h
  obtain ⟨b, off, _, h2, h3⟩ := hr.lie
  have hp : 0 < t.flat.length := by rw [Tm.flat_len]; exact t.size_pos
  obtain ⟨o, r, hf⟩ : ∃ o r, t.flat = o :: r := by
    cases hf : t.flat with
    | nil => rw [hf] at hp; simp at hp
    | cons o r => exact ⟨o, r, rfl⟩
  have h0 : (t.flat.flatMap opc)[0]? = some (.int .i64 o.1) := by rw [hf]; simp [opc]
  have h4 := h3 0 _ h0
  obtain rfl := h2 (getElem?_pos h0)
  refine Reads.grown (show Reads w 2 _ t.flat.length (t.flat.flatMap opc) from ⟨_, _, rfl, hr⟩) hg (.inr (.inr fun e => ?_))
  simp [Value.ownBlock] at e
  subst e
  obtain ⟨a, b', c', d, a1, a2, a3, b1, b2, b3, c1, c2, c3, d1, d2, d3, rfl, rfl, rfl, rfl, rfl⟩ := hx.e
  simp only [World.cell?, hQ] at h4
  match off + 0, h4 with
  | 0, h4 => simp at h4
  | 1, h4 => simp at h4
  | 2, h4 => simp at h4
  | 3, h4 => simp at h4
  | k + 4, h4 => simp at h4

set_option maxRecDepth 100000 in
set_option maxHeartbeats 16000000 in
theorem beginApart_walk (pv fr : Value) (d : Dn) (raw : List Op2) (W : World) (ht : Tab W) (hpl : IsPlans W pv d.rules) (hd : DnI d) (hr : Ops W fr raw) (hR : RawF raw) :
    Calls Tryd.prog 4 #[.agg (dnc d pv), fr] W fun e w' => e = .returned (.bool true) ∧ Ext W w' := by
  have EE := ext_al (Ext.refl W) (Obj.cells (dnc d pv) 25)
  have HTA := Lib.hid (task_any pv fr d raw 3 _ (hpl.ext EE) hd (ops_ext hr EE) hR (by omega))
  have HK := Lib.hid (task_ok d raw 3 (by omega))
  have hcn := forO_cnt raw 3
  have hsz : (forO raw 3 3).size ≤ 17 := by have := fT_small raw 3 4 3; unfold forO; omega
  have HEE := Lib.hid EE
  have HTB := Lib.hid (ht.ext EE)
  obtain ⟨ar0, cr0, rfl, _⟩ := id hr
  generalize forO raw 3 3 = t at *
  generalize d.md = m at *
  simp only [dnc] at HTA HEE HTB ⊢
  generalize raw.length = nraw at *
  clear ht hpl hd hr hR EE
  go_enter Tryd.func4, Tryd.ntmps4
  go_wp2_with fail
  generalize W.alloc (Obj.cells #[.int .i64 d.s0, .int .i64 d.s1, .int .i64 d.l0, .int .i64 d.l1, .int .i64 d.i0, .int .i64 d.i1, pv] 25) = W0 at *
  refine HTA.out.mono ?_
  rintro e w1 ⟨vv, rv, qv, fv, rfl, hT1, hE1⟩
  obtain ⟨av, cv, ar, cr, ap, cp, af, nf, cf, rfl, rfl, rfl, rfl⟩ := hT1.val
  have HT1 := Lib.hid hT1
  have HX1 := Lib.hid (HEE.out.trans hE1)
  have HTB1 := Lib.hid (HTB.out.ext hE1)
  clear hT1 hE1 HTA HTB
  have HLE := Lib.hid fun (c : Int) wx (hx : Ext w1 wx) (hc : 0 ≤ c ∧ c < countL m.vars) => (trivial : True)
  clear HLE
  have HFI := Lib.hid fun wx (hx : Ext w1 wx) => first_any _ _ m wx (HT1.out.md.ext hx) (HTB1.out.ext hx) HK.out.ok
  have HBA := Lib.hid fun wx (hx : Ext w1 wx) => begin_any _ _ _ _ m propT t wx (HT1.out.ext hx) (HTB1.out.ext hx) HK.out
  have HBB := Lib.hid fun (gv : Value) wx (hx : Ext w1 wx) (hg : IsT wx gv (.n1 10 0 t)) => begin_any _ _ _ gv m propT (.n1 10 0 t) wx ⟨HT1.out.md.ext hx, HT1.out.pr.ext hx, hg⟩ (HTB1.out.ext hx) ⟨HK.out.ok, HK.out.v0, HK.out.pk, not_isF HK.out.ff (by omega)⟩
  rw [not_cnt] at HBB
  have HJO := Lib.hid fun (w3 : World) (hx : Ext w1 w3) => joinT1 10 _ t w3 36 (HT1.out.fo.ext hx) (by omega)
  obtain ⟨fi, hfi⟩ : ∃ x, m.first = x := ⟨_, rfl⟩
  rw [hfi] at HFI HBA HBB
  obtain ⟨L, hL⟩ : ∃ x, letS propT (valsL m.vars fi) = x := ⟨_, rfl⟩
  rw [hL] at HBA HBB
  obtain ⟨N, hN⟩ : ∃ x, 2 ^ cntA t.flat = x := ⟨_, rfl⟩
  rw [hN] at HBA HBB
  have HN4 := Lib.hid (show N = 1 ∨ N = 2 ∨ N = 4 ∨ N = 8 from by
    have : cntA t.flat = 0 ∨ cntA t.flat = 1 ∨ cntA t.flat = 2 ∨ cntA t.flat = 3 := by omega
    rcases this with h | h | h | h <;> rw [h] at hN <;> omega)
  have HPM := Lib.hid (bcl_perm L t N)
  simp only [begL_bcl] at HBA HBB
  have HLA := Lib.hid fun c (hc : c ∈ bcl L t N) => bcl_lt hc
  have HLB := Lib.hid fun c (hc : c ∈ bcl L (.n1 10 0 t) N) => bcl_lt hc
  generalize bcl L t N = LA at *
  generalize bcl L (.n1 10 0 t) N = LB at *
  clear hfi hL hN hcn hsz
  generalize m.vars.length = nv at *
  generalize m.rules.length = nr at *
  generalize propT.length = np at *
  have hx5 := ext_al (Ext.refl w1) (Obj.cells #[.slice av nv cv, .slice ar nr cr, .slice ap np cp, .slice af nf cf] 49)
  have hx6 := ext_al (Ext.refl (w1.alloc (Obj.cells #[.slice av nv cv, .slice ar nr cr, .slice ap np cp, .slice af nf cf] 49))) (Obj.cells #[.slice av nv cv, .slice ar nr cr, .slice ap np cp, .slice af nf cf] 49)
  have hb5 := blk_ext (blk_new w1 (Obj.cells #[.slice av nv cv, .slice ar nr cr, .slice ap np cp, .slice af nf cf] 49)) hx6
  have hb6 := blk_new (w1.alloc (Obj.cells #[.slice av nv cv, .slice ar nr cr, .slice ap np cp, .slice af nf cf] 49)) (Obj.cells #[.slice av nv cv, .slice ar nr cr, .slice ap np cp, .slice af nf cf] 49)
  rw [World.size_alloc] at hb6
  have d3 := blk_cell hb5 (i := 3) rfl
  have HQ5 := Lib.hid hb5
  have HQ6 := Lib.hid hb6
  have HX6 := Lib.hid (hx5.trans hx6)
  have HSZ := Lib.hid (show ((w1.alloc (Obj.cells #[.slice av nv cv, .slice ar nr cr, .slice ap np cp, .slice af nf cf] 49)).alloc (Obj.cells #[.slice av nv cv, .slice ar nr cr, .slice ap np cp, .slice af nf cf] 49)).heap.size = w1.heap.size + 2 by simp)
  clear hx5 hx6 hb5 hb6
  go_upto_region 3 with fail
  generalize (w1.alloc (Obj.cells #[.slice av nv cv, .slice ar nr cr, .slice ap np cp, .slice af nf cf] 49)).alloc (Obj.cells #[.slice av nv cv, .slice ar nr cr, .slice ap np cp, .slice af nf cf] 49) = W3 at *
  go_wp2_with fail
  refine (HJO.out W3 HX6.out).mono ?_
  rintro e w4 ⟨gv, rfl, hG4, hE4⟩
  obtain ⟨ag, ng, cg, rfl⟩ := hG4.val
  have hE34 : Ext W3 w4 := hE4
  have hb6 := blk_ext HQ6.out hE34
  have x3 := blk_cell hb6 (i := 3) rfl
  have f3 := blk_free hb6 3
  have hb7 := blk_set (i := 3) hb6 (.slice ag ng cg)
  rw [(set4 _ _ _ _ _).2.2.2] at hb7
  have HB7 := Lib.hid hb7
  have HG7 := Lib.hid (isT_S hG4 ⟨⟨_, _, _, _, _, _, _, _, _, _, _, _, _, _, _, _, rfl, rfl, rfl, rfl, rfl⟩⟩ hb6 (grown_setP w4 ⟨w1.heap.size + 1, 3, none⟩ (.slice ag ng cg)))
  have HX7 := Lib.hid (ext_st (HX6.out.trans hE34) (p := ⟨w1.heap.size + 1, 3, none⟩) (by show w1.heap.size ≤ w1.heap.size + 1; omega) (.slice ag ng cg))
  have HC7 := Lib.hid (blk_far (blk_ext HQ5.out hE34) (p := ⟨w1.heap.size + 1, 3, none⟩) (by show w1.heap.size + 1 ≠ w1.heap.size; omega) (.slice ag ng cg))
  clear hG4 hE4 hE34 hb6 hb7 d3 HJO
  go_upto_region 4 with fail
  generalize w4.setCell ⟨w1.heap.size + 1, 3, none⟩ (.slice ag ng cg) = W7 at *
  clear x3 f3
  have d0 := blk_cell HC7.out (i := 0) rfl
  have d1 := blk_cell HC7.out (i := 1) rfl
  have d2 := blk_cell HC7.out (i := 2) rfl
  have d3 := blk_cell HC7.out (i := 3) rfl
  go_wp2_with fail
  refine (HBA.out _ HX7.out).mono ?_
  rintro e w8 ⟨v8, rfl, ho8, hE8⟩
  obtain ⟨a8, c8, rfl, hr8⟩ := id ho8.row
  have HR8 := Lib.hid hr8
  have HE8 := Lib.hid hE8
  have hb8 := blk_ext HB7.out hE8
  have d0 := blk_cell hb8 (i := 0) rfl
  have d1 := blk_cell hb8 (i := 1) rfl
  have d2 := blk_cell hb8 (i := 2) rfl
  have d3 := blk_cell hb8 (i := 3) rfl
  clear ho8 hr8 hE8 hb8
  go_wp2_with fail
  refine (HBB.out _ _ (HX7.out.trans HE8.out) (HG7.out.ext HE8.out)).mono ?_
  rintro e w9 ⟨v9, rfl, ho9, hE9⟩
  obtain ⟨a9, c9, rfl, hr9⟩ := id ho9.row
  have HR9 := Lib.hid hr9
  have HE9 := Lib.hid (HE8.out.trans hE9)
  have HR89 := Lib.hid (HR8.out.ext hE9)
  have hb9 := blk_ext HC7.out HE9.out
  have d0 := blk_cell hb9 (i := 0) rfl
  have d1 := blk_cell hb9 (i := 1) rfl
  clear ho9 hr9 hE9 hb9 d2 d3 HR8
  go_wp2_with fail
  refine (HFI.out _ (HX7.out.trans HE9.out)).mono ?_
  rintro e wA ⟨rfl, hEA⟩
  have HEA := Lib.hid (HX7.out.trans (HE9.out.trans hEA))
  have HRA := Lib.hid (HR89.out.ext hEA)
  have HRB := Lib.hid (HR9.out.ext hEA)
  clear hEA d0 d1 HR89 HR9
  have hlA : (List.map (fun c : Nat => (fi, (c : Int))) LA).length = LA.length := by simp
  have hlB : (List.map (fun c : Nat => (fi, (c : Int))) LB).length = LB.length := by simp
  rw [hlA] at HRA
  rw [hlB] at HRB
  clear hlA hlB
  go_wp2_with (at_make; go_must (refine wpList_make_full _ rfl _ _ 57 rfl wA.heap.size 3 (Tryd.slInts.inf.choose) (.int .i64 0) 1 Tryd.underlying57 Tryd.slInts.inf.choose_spec.1 Tryd.slInts.inf.choose_spec.2.1 Tryd.slInts.inf.choose_spec.2.2.1 .i64 .i64 8 8 8 rfl rfl rfl rfl (by rw [Tryd.slInts.inf.choose_spec.2.2.2]; omega) (by unfold maxLen; omega) (Nat.le_refl _) ?_))
  intro wB hownB hgB
  obtain ⟨S, hS⟩ : ∃ S, S = wA.heap.size := ⟨_, rfl⟩
  have HOB := Lib.hid (show wB.ownsRow wA.heap.size 3 1 (.slice (some ⟨S, 0, none⟩) 8 8) 8 ((seenF []).map (.int .i64)) from by
    rw [seenF_nil, hS]
    rw [toList_madeCells_one] at hownB
    exact hownB)
  have HEB := Lib.hid ((Ext.refl wA).grown hgB (Nat.le_refl _) (by simp))
  have HNL := Lib.hid (show LA.length + LB.length = N by have := HPM.out.length_eq; simpa using this)
  rw [← hS]
  have HSS := Lib.hid hS
  obtain ⟨nXa, hna⟩ : ∃ x, LA.length = x := ⟨_, rfl⟩
  obtain ⟨nXb, hnb⟩ : ∃ x, LB.length = x := ⟨_, rfl⟩
  rw [hna] at HRA ⊢
  rw [hnb] at HRB ⊢
  have HNXa := Lib.hid hna
  have HNXb := Lib.hid hnb
  clear hownB hgB hS hna hnb
  go_wp2_with fail
  go_loopg [14] nXa (fun g x wr => ∃ i : Nat, g + i = nXa ∧ x = .int .i64 (i : Int) ∧ Ext wA wr ∧ wr.ownsRow wA.heap.size 3 1 (.slice (some ⟨S, 0, none⟩) 8 8) 8 ((seenF (([] : List Nat) ++ LA.take i)).map (.int .i64)))
  case atStart => exact ⟨0, by omega, by go_num, HEB.out, by rw [List.take_zero, List.append_nil]; exact HOB.out⟩
  case round =>
    obtain ⟨i, hgi, rfl, hE, hO⟩ := hrel
    have HGIa := Lib.hid hgi
    have HEa := Lib.hid hE
    have HOa := Lib.hid hO
    clear hgi
    by_cases hi : i < nXa
    · have hiL : i < LA.length := by have := HNXa.out; omega
      obtain ⟨bS, oS, s1, s2⟩ := spots_at (HRA.out.ext hE)
      have hlm : i < (List.map (fun c : Nat => (fi, (c : Int))) LA).length := by simpa using hiL
      obtain ⟨c0, c1⟩ := s2 i hlm
      obtain rfl := s1 (by omega)
      rw [List.getElem_map] at c0 c1
      have hcN := HLA.out _ (List.getElem_mem hiL)
      have HTK := Lib.hid (show ([] : List Nat) ++ LA.take (i + 1) = (([] : List Nat) ++ LA.take i) ++ [LA[i]] by rw [List.take_succ_eq_append_getElem hiL, List.append_assoc])
      have hn8 : N ≤ 8 := by have := HN4.out; omega
      have hcn : (([] : List Nat) ++ LA.take i).length ≤ 16 := by
        rw [List.length_append, List.length_take]
        have := HNL.out
        simp
        omega
      generalize LA[i] = c at *
      have hlt : c < ((seenF (([] : List Nat) ++ LA.take i)).map (Value.int .i64)).length := by rw [List.length_map, seenF_len]; omega
      have cs := own_cellAt hO (i := c) hlt
      rw [List.getElem_map, seenF_at] at cs
      have fs := own_freeAt hO c
      have hO2 := own_setAt hO (i := c) (.int .i64 ((((([] : List Nat) ++ LA.take i).count c : Nat) : Int) + 1))
      rw [← List.map_set, seenF_set, ← HTK.out] at hO2
      have HO2 := Lib.hid hO2
      have HE2 := Lib.hid (ext_st hE (p := ⟨S, c, none⟩) (by have := HSS.out; show wA.heap.size ≤ S; omega) (.int .i64 ((((([] : List Nat) ++ LA.take i).count c : Nat) : Int) + 1)))
      have hcnt := List.count_le_length (a := c) (l := ([] : List Nat) ++ LA.take i)
      obtain ⟨ct, hct⟩ : ∃ x, (([] : List Nat) ++ LA.take i).count c = x := ⟨_, rfl⟩
      rw [hct] at cs HO2 HE2 hcnt
      have t1 : IntKind.i64.wrap ((ct : Int) + 1) = (ct : Int) + 1 := IntWalk.i64_in _ (by omega)
      have hiI : (i : Int) < (nXa : Int) := by omega
      have hnx8 : nXa ≤ 8 := by have := HNL.out; have := HNXa.out; have := HNXb.out; omega
      have hi0 : (0 : Int) ≤ (i : Int) := by omega
      have g1 : ¬ (c : Int) < 0 := by omega
      have g2 : ¬ (7 : Int) < (c : Int) := by omega
      have g3 : (c : Int) < 8 := by omega
      have g4 : (0 : Int) ≤ (c : Int) := by omega
      have g5 : c < 8 := by omega
      clear hO hO2 hE hlm hlt hcN hct hcn hcnt s1 s2
      go_wp2_with fail
      go_roundg (gk - 1)
      case measure => have := HGIa.out; omega
      case rel => exact ⟨i + 1, by have := HGIa.out; omega, by go_num, HE2.out, HO2.out⟩
    · have hin : i = nXa := by have := HGIa.out; omega
      have hiI : ¬ (i : Int) < (nXa : Int) := by omega
      have HOFa := Lib.hid (show wr.ownsRow wA.heap.size 3 1 (.slice (some ⟨S, 0, none⟩) 8 8) 8 ((seenF LA).map (.int .i64)) from by
        have h := hO
        rw [List.take_of_length_le (by have := HNXa.out; omega)] at h
        exact h)
      clear hE hO hin
      go_wp2_with fail
      obtain ⟨wo1, rfl⟩ : ∃ wo1 : World, wo1 = wr := ⟨_, rfl⟩
      obtain ⟨G1, rfl⟩ : ∃ G1 : Nat, G1 = gk := ⟨_, rfl⟩
      go_loopg [15] nXb (fun g x wr => ∃ i : Nat, g + i = nXb ∧ x = .int .i64 (i : Int) ∧ Ext wA wr ∧ wr.ownsRow wA.heap.size 3 1 (.slice (some ⟨S, 0, none⟩) 8 8) 8 ((seenF (LA ++ LB.take i)).map (.int .i64)))
      case atStart => exact ⟨0, by omega, by go_num, HEa.out, by rw [List.take_zero, List.append_nil]; exact HOFa.out⟩
      case round =>
        obtain ⟨i, hgi, rfl, hE, hO⟩ := hrel
        have HGIb := Lib.hid hgi
        have HEb := Lib.hid hE
        have HOb := Lib.hid hO
        clear hgi
        by_cases hi : i < nXb
        · have hiL : i < LB.length := by have := HNXb.out; omega
          obtain ⟨bS, oS, s1, s2⟩ := spots_at (HRB.out.ext hE)
          have hlm : i < (List.map (fun c : Nat => (fi, (c : Int))) LB).length := by simpa using hiL
          obtain ⟨c0, c1⟩ := s2 i hlm
          obtain rfl := s1 (by omega)
          rw [List.getElem_map] at c0 c1
          have hcN := HLB.out _ (List.getElem_mem hiL)
          have HTK := Lib.hid (show LA ++ LB.take (i + 1) = (LA ++ LB.take i) ++ [LB[i]] by rw [List.take_succ_eq_append_getElem hiL, List.append_assoc])
          have hn8 : N ≤ 8 := by have := HN4.out; omega
          have hcn : (LA ++ LB.take i).length ≤ 16 := by
            rw [List.length_append, List.length_take]
            have := HNL.out
            simp
            omega
          generalize LB[i] = c at *
          have hlt : c < ((seenF (LA ++ LB.take i)).map (Value.int .i64)).length := by rw [List.length_map, seenF_len]; omega
          have cs := own_cellAt hO (i := c) hlt
          rw [List.getElem_map, seenF_at] at cs
          have fs := own_freeAt hO c
          have hO2 := own_setAt hO (i := c) (.int .i64 ((((LA ++ LB.take i).count c : Nat) : Int) + 1))
          rw [← List.map_set, seenF_set, ← HTK.out] at hO2
          have HO2 := Lib.hid hO2
          have HE2 := Lib.hid (ext_st hE (p := ⟨S, c, none⟩) (by have := HSS.out; show wA.heap.size ≤ S; omega) (.int .i64 ((((LA ++ LB.take i).count c : Nat) : Int) + 1)))
          have hcnt := List.count_le_length (a := c) (l := LA ++ LB.take i)
          obtain ⟨ct, hct⟩ : ∃ x, (LA ++ LB.take i).count c = x := ⟨_, rfl⟩
          rw [hct] at cs HO2 HE2 hcnt
          have t1 : IntKind.i64.wrap ((ct : Int) + 1) = (ct : Int) + 1 := IntWalk.i64_in _ (by omega)
          have hiI : (i : Int) < (nXb : Int) := by omega
          have hnx8 : nXb ≤ 8 := by have := HNL.out; have := HNXa.out; have := HNXb.out; omega
          have hi0 : (0 : Int) ≤ (i : Int) := by omega
          have g1 : ¬ (c : Int) < 0 := by omega
          have g2 : ¬ (7 : Int) < (c : Int) := by omega
          have g3 : (c : Int) < 8 := by omega
          have g4 : (0 : Int) ≤ (c : Int) := by omega
          have g5 : c < 8 := by omega
          clear hO hO2 hE hlm hlt hcN hct hcn hcnt s1 s2
          go_wp2_with fail
          go_roundg (gk - 1)
          case measure => have := HGIb.out; omega
          case rel => exact ⟨i + 1, by have := HGIb.out; omega, by go_num, HE2.out, HO2.out⟩
        · have hin : i = nXb := by have := HGIb.out; omega
          have hiI : ¬ (i : Int) < (nXb : Int) := by omega
          have HOFb := Lib.hid (show wr.ownsRow wA.heap.size 3 1 (.slice (some ⟨S, 0, none⟩) 8 8) 8 ((seenF (LA ++ LB)).map (.int .i64)) from by
            have h := hO
            rw [List.take_of_length_le (by have := HNXb.out; omega)] at h
            exact h)
          clear hE hO hin
          have t2 : IntKind.i64.wrap ((nXa : Int) + (nXb : Int)) = (N : Int) := (IntWalk.i64_in _ (by have := HNL.out; have := HNXa.out; have := HNXb.out; have := HN4.out; omega)).trans (by have := HNL.out; have := HNXa.out; have := HNXb.out; omega)
          go_wp2_with fail
          obtain ⟨wo2, rfl⟩ : ∃ wo2 : World, wo2 = wr := ⟨_, rfl⟩
          obtain ⟨G2, rfl⟩ : ∃ G2 : Nat, G2 = gk := ⟨_, rfl⟩
          go_loopg [17] 8 (fun g x wq => ∃ i : Nat, g + i = 8 ∧ x = .int .i64 (i : Int) ∧ wo2 = wq)
          case atStart => exact ⟨0, by omega, by go_num, rfl⟩
          case round =>
            obtain ⟨j, hgj, rfl, rfl⟩ := hrel
            have HGJ := Lib.hid hgj
            clear hgj
            by_cases hj : j < 8
            · have hlt : j < ((seenF (LA ++ LB)).map (Value.int .i64)).length := by rw [List.length_map, seenF_len]; exact hj
              have cs := own_cellAt HOFb.out (i := j) hlt
              rw [List.getElem_map, seenF_at, seenF_all HPM.out] at cs
              have hjI : (j : Int) < 8 := by omega
              have hj0 : (0 : Int) ≤ (j : Int) := by omega
              clear hlt
              by_cases hjN : j < N
              · rw [if_pos hjN] at cs
                have q1 : (j : Int) < (N : Int) := by omega
                have q2 : ¬ (N : Int) ≤ (j : Int) := by omega
                have q3 : ¬ N ≤ j := by omega
                go_wp2_with fail
                go_roundg (gk - 1)
                case measure => have := HGJ.out; omega
                case rel => exact ⟨j + 1, by have := HGJ.out; omega, by go_num, rfl⟩
              · rw [if_neg hjN] at cs
                have q1 : ¬ (j : Int) < (N : Int) := by omega
                have q2 : (N : Int) ≤ (j : Int) := by omega
                have q3 : N ≤ j := by omega
                go_wp2_with fail
                go_roundg (gk - 1)
                case measure => have := HGJ.out; omega
                case rel => exact ⟨j + 1, by have := HGJ.out; omega, by go_num, rfl⟩
            · have hjI : ¬ (j : Int) < 8 := by omega
              have HEF := Lib.hid (HX1.out.trans (HEA.out.trans HEb.out))
              rcases HN4.out with e | e | e | e
              all_goals
                subst e
                go_wp2
                go_ret
                exact ⟨rfl, HEF.out⟩

theorem beginApart_law (cs : Array Value) (v1 : Value) (W : World) (ht : Tab W) (h0 : Cells Tryd.prog W 25 cs.toList) (h1 : Cells Tryd.prog W 46 [v1]) :
    Calls Tryd.prog 4 #[.agg cs, v1] W fun e w' => e = .returned (.bool true) ∧ Ext W w' := by
  obtain ⟨d, pv, rfl, hpl, hd⟩ := design_of h0
  obtain ⟨raw, hr, hR⟩ := raw_for h1
  exact beginApart_walk pv v1 d raw W ht hpl hd hr hR

end Go.Proofs.YtkkbefhnklpfaaaDoor
