/- Several texts in one: MdV; MdR; MdX. No condition. -/
import Derived.Test.YtciihiiacbnimaaGreatDoorKv20
import Derived.Test.YtciihiiacbnimaaGreatDoorKv23
import Derived.Deep.DeepCutAuto
import Derived.Deep.RegionLaw
namespace Go.Proofs.YtciihiiacbnimaaGreatDoor
open Go.RowKit
set_option maxRecDepth 100000 in
theorem two_of {W : World} {a b : Value} (h : Cells Tryz.prog W 22 [a, b]) : ∃ m n, a = .int .i64 m ∧ b = .int .i64 n ∧ I64 m ∧ I64 n := by
  have c1 : Tryz.prog.cellsOf 3 = 1 := by kernel_rfl
  obtain ⟨_, hc⟩ := h.array Tryz.underlying22
  have f0 : Cells Tryz.prog W 3 [a] := by have := hc 0 (by omega); simpa [c1] using this
  have f1 : Cells Tryz.prog W 3 [b] := by have := hc 1 (by omega); simpa [c1] using this
  obtain ⟨m, e0, i0⟩ := Cells.i64 Tryz.underlying3 f0
  obtain ⟨n, e1, i1⟩ := Cells.i64 Tryz.underlying3 f1
  simp at e0 e1
  exact ⟨m, n, e0, e1, i0, i1⟩
set_option maxRecDepth 100000 in
theorem plan_of {W : World} {cs : List Value} (hl : cs.length = 4) (h : Cells Tryz.prog W 94 cs) : ∃ p, PlanE W p cs ∧ PlI p := by
  obtain ⟨_, hf⟩ := h.field Tryz.underlying94
  have c1 : Tryz.prog.cellsOf 3 = 1 := by kernel_rfl
  have c2 : Tryz.prog.cellsOf 26 = 1 := by kernel_rfl
  have c3 : Tryz.prog.cellsOf 4 = 1 := by kernel_rfl
  match cs, hl with
  | [a, b, c, d], _ =>
    have f0 : Cells Tryz.prog W 26 [a] := by have := hf 0 _ rfl; simpa [c2] using this
    have f1 : Cells Tryz.prog W 3 [b] := by have := hf 1 _ rfl; simpa [c1] using this
    have f2 : Cells Tryz.prog W 26 [c] := by have := hf 2 _ rfl; simpa [c2] using this
    have f3 : Cells Tryz.prog W 4 [d] := by have := hf 3 _ rfl; simpa [c3] using this
    obtain ⟨r0, o0, i0⟩ := raw_of f0
    obtain ⟨n, e1, i1⟩ := Cells.i64 Tryz.underlying3 f1
    obtain ⟨r2, o2, i2⟩ := raw_of f2
    obtain ⟨x, e3⟩ := Cells.bool Tryz.underlying4 f3
    simp at e1 e3
    subst e1; subst e3
    exact ⟨⟨r0, n, r2, x⟩, ⟨a, c, rfl, o0, o2⟩, i0, i1, i2⟩
set_option maxRecDepth 100000 in
theorem design_of {W : World} {cs : Array Value} (h : Cells Tryz.prog W 25 cs.toList) : ∃ d pv, cs = dnc d pv ∧ IsPlans W pv d.rules ∧ DnI d := by
  obtain ⟨hl, hf⟩ := h.field Tryz.underlying25
  have hsz : Tryz.prog.cellsOf 25 = 7 := by kernel_rfl
  have c1 : Tryz.prog.cellsOf 22 = 2 := by kernel_rfl
  have c2 : Tryz.prog.cellsOf 23 = 1 := by kernel_rfl
  rw [hsz] at hl
  obtain ⟨l, rfl⟩ : ∃ l : List Value, cs = l.toArray := ⟨cs.toList, by simp⟩
  simp only at hl hf
  match l, hl with
  | [a0, a1, b0, b1, d0, d1, pv], _ =>
    have f0 : Cells Tryz.prog W 22 [a0, a1] := by have := hf 0 _ rfl; simpa [c1] using this
    have f1 : Cells Tryz.prog W 22 [b0, b1] := by have := hf 1 _ rfl; simpa [c1] using this
    have f2 : Cells Tryz.prog W 22 [d0, d1] := by have := hf 2 _ rfl; simpa [c1] using this
    have f3 : Cells Tryz.prog W 23 [pv] := by have := hf 3 _ rfl; simpa [c2] using this
    obtain ⟨s0, s1, rfl, rfl, i0, i1⟩ := two_of f0
    obtain ⟨l0, l1, rfl, rfl, i2, i3⟩ := two_of f1
    obtain ⟨n0, n1, rfl, rfl, i4, i5⟩ := two_of f2
    obtain ⟨a, cap, xss, hv, hr, hx⟩ := f3.slice (sz := 4) Tryz.underlying23 (by kernel_rfl)
    simp only [List.cons.injEq, and_true] at hv
    obtain ⟨rs, hrl, hrs⟩ := list_of (n := xss.length) (p := fun i (x : Pl) => ∀ xs, xss[i]? = some xs → PlanE W x xs ∧ PlI x) fun i hi => by
      obtain ⟨h4, hc⟩ := hx xss[i] (by simp)
      obtain ⟨p, h1, h2⟩ := plan_of h4 hc
      refine ⟨p, fun xs he => ?_⟩
      rw [List.getElem?_eq_getElem hi] at he
      obtain rfl := Option.some.inj he
      exact ⟨h1, h2⟩
    refine ⟨⟨s0, s1, l0, l1, n0, n1, rs⟩, pv, rfl, ⟨xss, hrl.symm, fun cs hc => (hx cs hc).1, ⟨a, cap, by rw [hv, hrl], by rw [hrl]; exact hr⟩, fun i cs x hc hx' => (hrs i x hx' cs hc).1⟩, ⟨i0, i1, i2, i3, i4, i5, fun p hp => ?_⟩⟩
    obtain ⟨i, hi, e⟩ := List.mem_iff_getElem.1 hp
    have h2 : rs[i]? = some p := by rw [← e]; exact List.getElem?_eq_getElem hi
    exact (hrs i p h2 xss[i] (List.getElem?_eq_getElem (by rw [← hrl]; exact hi))).2
end Go.Proofs.YtciihiiacbnimaaGreatDoor
namespace Go.Proofs.YtciihiiacbnimaaGreatDoor
open Go.RowKit
structure Drawn (m : Md) : Prop where
  ok : m.Ok
  two : m.vars.length = 2
  n1 : 1 ≤ countL m.vars
  n16 : countL m.vars ≤ 16
  five : m.rules.length ≤ 5
theorem Dn.drawn (d : Dn) : Drawn d.md := ⟨d.ok, rfl, d.span.1, d.span.2, d.rules_len⟩
end Go.Proofs.YtciihiiacbnimaaGreatDoor

namespace Go.Proofs.YtciihiiacbnimaaGreatDoor
open Go.RowKit
structure PropsOk (n : Int) (P : List Tm) : Prop where
  six : P.length ≤ 6
  each : ∀ p ∈ P, Sub p n ∧ p.size ≤ 60 ∧ mkK p.kind = true
set_option maxRecDepth 100000 in
set_option maxHeartbeats 8000000 in
theorem props_any (vv rv pv : Value) (m : Md) (P : List Tm) (w : World) (h : IsMd w vv rv m) (ht : Tab w) (hp : m.Ok) (hP : IsTms w pv P) (hk : PropsOk m.vars.length P) :
    Calls Tryz.prog 25 #[.agg #[vv, rv], pv] w fun e w' => e = .returned (.int .i64 0) ∧ Ext w w' := by
  have h6 := hk.six
  have hv6 := hp.six
  have HCK := Lib.hid fun wx (hx : Ext w wx) => mcheck_ok vv rv m wx (h.ext hx) (ht.ext hx) hp
  obtain ⟨ap, cp, rfl, _, b, off, ha, hcells⟩ := hP.at
  have HKI := Lib.hid fun (u : Value) (t : Tm) wx (hu : IsT w u t) (hx : Ext w wx) (hs : Sub t m.vars.length ∧ t.size ≤ 60 ∧ mkK t.kind = true) => (show Calls Tryz.prog 48 #[u, .int .i64 (m.vars.length : Int), .bool true] wx (fun e w' => e = .returned (.int .i64 0) ∧ Ext wx w') from by
    have := kind_any u t m.vars.length true wx (hu.ext hx) (ht.ext hx) (by omega) (by omega) hs.1 hs.2.1
    rw [show kindE t true = 0 by unfold kindE; rw [hs.2.2]; rfl] at this
    exact this)
  obtain ⟨av, cv, rfl⟩ := EachL.val h.vars
  obtain ⟨a, cr, rfl⟩ := EachL.val h.rules
  have hbk := blk_new w (Obj.cells #[.slice av m.vars.length cv, .slice a m.rules.length cr] 31)
  have HE := Lib.hid (ext_al (Ext.refl w) (Obj.cells #[.slice av m.vars.length cv, .slice a m.rules.length cr] 31))
  have HB := Lib.hid hbk
  have HA := Lib.hid ha
  have HC := Lib.hid hcells
  have HS := Lib.hid hk.each
  clear h ht hp hP hk ha hcells hbk
  generalize m.rules.length = nr at *
  generalize m.vars.length = nv at *
  go_enter Tryz.func25, Tryz.ntmps25
  have d0 := blk_cell HB.out (i := 0) (v := .slice av nv cv) rfl
  have d1 := blk_cell HB.out (i := 1) (v := .slice a nr cr) rfl
  go_wp2_with fail
  generalize w.alloc (Obj.cells #[.slice av nv cv, .slice a nr cr] 31) = W1 at *
  refine (HCK.out _ HE.out).mono ?_
  rintro e w2 ⟨rfl, hE2⟩
  have HB2 := Lib.hid (blk_ext HB.out hE2)
  have HE2 := Lib.hid (HE.out.trans hE2)
  clear hE2 HCK HB HE d0 d1
  go_wp2_with fail
  go_loopg [19] P.length (fun k x wr => ∃ i : Nat, k + i = P.length ∧ x = .int .i64 (i : Int) ∧ Ext w2 wr)
  case atStart => exact ⟨0, by omega, by go_num, Ext.refl _⟩
  case round =>
    obtain ⟨i, hki, rfl, hE⟩ := hrel
    have HK := Lib.hid hki
    have HX := Lib.hid hE
    by_cases hi : i < P.length
    · obtain rfl := HA.out (by omega)
      obtain ⟨u, c0, hu⟩ := HC.out i hi
      have c0 := cell_later (HE2.out.trans hE) c0
      have d0 := blk_cell (blk_ext HB2.out hE) (i := 0) (v := .slice av nv cv) rfl
      have HKC := Lib.hid (HKI.out u P[i] wr hu (HE2.out.trans hE) (HS.out P[i] (by simp)))
      obtain ⟨au, nu, cu, rfl⟩ := hu.val
      have hiI : (i : Int) < (P.length : Int) := by omega
      have hi0 : (0 : Int) ≤ (i : Int) := by omega
      clear hki hE hu
      go_wp2_with fail
      refine HKC.out.mono ?_
      rintro e w3 ⟨rfl, hE3⟩
      have HX3 := Lib.hid (HX.out.trans hE3)
      clear hE3 c0 d0 HKC
      go_wp2_with fail
      go_roundg (gk - 1)
      case measure => have := HK.out; omega
      case rel => exact ⟨i + 1, by have := HK.out; omega, by go_num, HX3.out⟩
    · have hiI : ¬ (i : Int) < (P.length : Int) := by omega
      clear hki hE
      go_wp2
      go_ret
      exact ⟨rfl, HE2.out.trans HX.out⟩
def letS (P : List Tm) (xs : List Int) : List Bool := P.map fun p => decide (evalT xs p = some 1)
theorem letS_len (P : List Tm) (xs : List Int) : (letS P xs).length = P.length := by simp [letS]
def fillB (L : List Bool) (i : Nat) : List Bool := L.take i ++ List.replicate (L.length - i) false
theorem fillB_len {L : List Bool} {i : Nat} (h : i ≤ L.length) : (fillB L i).length = L.length := by unfold fillB; simp; omega
theorem fillB_step {L : List Bool} {i : Nat} (h : i < L.length) : (fillB L i).set i L[i] = fillB L (i + 1) := by
  unfold fillB
  have e : L.length - i = (L.length - (i + 1)) + 1 := by omega
  rw [e, List.replicate_succ, List.set_append, if_neg (by simp; omega)]
  have e0 : i - (List.take i L).length = 0 := by simp; omega
  rw [e0, List.set_cons_zero, List.take_succ_eq_append_getElem h, List.append_assoc]
  rfl
theorem fillB_all (L : List Bool) : fillB L L.length = L := by unfold fillB; simp
theorem set_mapB (l : List Bool) (i : Nat) (x : Bool) : (l.map Value.bool).set i (.bool x) = (l.set i x).map Value.bool := by rw [List.map_set]
theorem Tryz.slBoolsS : SlTy Tryz.prog 53 4 (.bool false) 1 1 := SlTy.mk' Tryz.underlying53 (by kernel_rfl) (by rfl) (by omega)
set_option maxRecDepth 100000 in
set_option maxHeartbeats 8000000 in
theorem sletter_any (vv rv pv : Value) (m : Md) (P : List Tm) (c : Int) (w : World) (h : IsMd w vv rv m) (ht : Tab w) (hp : m.Ok) (hP : IsTms w pv P) (hk : PropsOk m.vars.length P) (hc0 : 0 ≤ c) (hc1 : c < countL m.vars) :
    Calls Tryz.prog 8 #[.agg #[vv, rv], pv, .int .i64 c] w fun e w' => ∃ v, e = .returned (.tuple #[v, .int .i64 0]) ∧ w'.ownsRow w.heap.size 4 1 v P.length ((letS P (valsL m.vars c)).map .bool) ∧ Ext w w' := by
  have h6 := hk.six
  have hv6 := hp.six
  have hvl := valsL_len m.vars c
  have hsm := small_of hp.vars (digL_in hp.vars c)
  have HPR := Lib.hid fun wx (hx : Ext w wx) => props_any vv rv pv m P wx (h.ext hx) (ht.ext hx) hp (hP.ext hx) hk
  have HVA := Lib.hid fun wx (hx : Ext w wx) => values_any vv rv m c wx (h.ext hx) (ht.ext hx) hp hc0 hc1
  obtain ⟨ap, cp, rfl, _, b, off, ha, hcells⟩ := hP.at
  have HEV := Lib.hid fun (u xv : Value) (t : Tm) wx (hu : IsT w u t) (hx : Ext w wx) (hi : Ints wx xv (valsL m.vars c)) (ht' : t ∈ P) => eval_t u xv t (valsL m.vars c) wx (hu.ext hx) hi (ht.ext hx) (by rw [hvl]; exact (hk.each t ht').1) (hk.each t ht').2.1 (by omega) hsm
  obtain ⟨av, cv, rfl⟩ := EachL.val h.vars
  obtain ⟨a, cr, rfl⟩ := EachL.val h.rules
  have hbk := blk_new w (Obj.cells #[.slice av m.vars.length cv, .slice a m.rules.length cr] 31)
  have HE := Lib.hid (ext_al (Ext.refl w) (Obj.cells #[.slice av m.vars.length cv, .slice a m.rules.length cr] 31))
  have HB := Lib.hid hbk
  have HA := Lib.hid ha
  have HC := Lib.hid hcells
  clear h ht hp hP hk ha hcells hbk hsm
  generalize m.rules.length = nr at *
  generalize m.vars.length = nv at *
  generalize valsL m.vars c = xs at *
  obtain ⟨L, hL⟩ : ∃ L, letS P xs = L := ⟨_, rfl⟩
  have hLl : L.length = P.length := by rw [← hL, letS_len]
  have HLA := Lib.hid fun (i : Nat) (hi : i < P.length) (hj : i < L.length) => (show L[i] = decide (evalT xs P[i] = some 1) by
    subst hL
    simp [letS])
  have HLL := Lib.hid hLl
  rw [hL]
  clear hL hLl
  go_enter Tryz.func8, Tryz.ntmps8
  have d0 := blk_cell HB.out (i := 0) (v := .slice av nv cv) rfl
  have d1 := blk_cell HB.out (i := 1) (v := .slice a nr cr) rfl
  go_wp2_with fail
  generalize w.alloc (Obj.cells #[.slice av nv cv, .slice a nr cr] 31) = W1 at *
  refine (HPR.out _ HE.out).mono ?_
  rintro e w2 ⟨rfl, hE2⟩
  have d0 := cell_later hE2 d0
  have d1 := cell_later hE2 d1
  have HE2 := Lib.hid (HE.out.trans hE2)
  clear hE2 HPR
  go_wp2_with fail
  refine (HVA.out _ HE2.out).mono ?_
  rintro e w3 ⟨xv, rfl, hox, hE3⟩
  have HE3 := Lib.hid (HE2.out.trans hE3)
  have HIX := Lib.hid (show Ints w3 xv xs from by
    have h := hox.reads
    unfold Ints
    rw [hvl]
    exact h)
  obtain ⟨ax, cx, rfl, _⟩ := hox.row
  have h33 := HE3.out.size
  clear hox hE3 HVA d0 d1 HB HE HE2
  go_wp2_with (at_make; go_must (refine wpList_make_full _ rfl _ _ 53 rfl w3.heap.size 4 (Tryz.slBoolsS.inf.choose) (.bool false) 1 Tryz.underlying53 Tryz.slBoolsS.inf.choose_spec.1 Tryz.slBoolsS.inf.choose_spec.2.1 Tryz.slBoolsS.inf.choose_spec.2.2.1 .i64 .i64 P.length P.length P.length rfl rfl rfl rfl (by rw [Tryz.slBoolsS.inf.choose_spec.2.2.2]; omega) (by unfold maxLen; omega) (Nat.le_refl _) ?_))
  intro w4 hown4 hg4
  have hmx : (madeCells #[Value.bool false] P.length).toList = (fillB L 0).map .bool := by
    rw [toList_madeCells_one, fillB, HLL.out]
    simp
  rw [hmx] at hown4
  have HO4 := Lib.hid hown4
  have HX4 := Lib.hid ((Ext.refl w3).grown hg4 (Nat.le_refl _) (by simp))
  obtain ⟨D, hD⟩ : ∃ D, w3.heap.size = D := ⟨_, rfl⟩
  rw [hD] at HO4 h33 ⊢
  have HD := Lib.hid hD
  clear hown4 hg4 hmx hD
  go_wp2_with fail
  go_loopg [36] P.length (fun k x wr => ∃ i : Nat, k + i = P.length ∧ x = .int .i64 (i : Int) ∧ Ext w3 wr ∧ wr.ownsRow D 4 1 (.slice (some ⟨D, 0, none⟩) P.length P.length) P.length ((fillB L i).map .bool))
  case atStart => exact ⟨0, by omega, by go_num, HX4.out, HO4.out⟩
  case round =>
    obtain ⟨i, hki, rfl, hE, hO⟩ := hrel
    clear HO4 HX4
    have HK := Lib.hid hki
    have HX := Lib.hid hE
    have HO := Lib.hid hO
    by_cases hi : i < P.length
    · have hiL : i < L.length := by have := HLL.out; omega
      obtain rfl := HA.out (by omega)
      obtain ⟨u, c0, hu⟩ := HC.out i hi
      have c0 := cell_later (HE3.out.trans hE) c0
      have HEC := Lib.hid (HEV.out u _ P[i] wr hu (HE3.out.trans hE) (HIX.out.ext hE) (by simp))
      have HLI := Lib.hid (HLA.out i hi hiL)
      have HST := Lib.hid (fillB_step hiL)
      obtain ⟨au, nu, cu, rfl⟩ := hu.val
      have hiI : (i : Int) < (P.length : Int) := by omega
      have hi0 : (0 : Int) ≤ (i : Int) := by omega
      have hfl := fillB_len (L := L) (i := i) (by omega)
      generalize evalT xs P[i] = ev at *
      generalize L[i] = li at *
      clear hki hE hu hO
      go_wp2_with fail
      refine HEC.out.mono ?_
      rintro e w5 ⟨hE5, rfl⟩
      have hO5 := own_ext HO.out hE5
      have fr := own_freeAt hO5 i
      obtain ⟨uu, cr5⟩ : ∃ uu, w5.cell? ⟨D, i, none⟩ = some uu := ⟨_, own_cellAt hO5 (i := i) (by rw [List.length_map, hfl]; exact hiL)⟩
      have HO5 := Lib.hid hO5
      have HX5 := Lib.hid (HX.out.trans hE5)
      have HS5 := Lib.hid (show (w5.setCell ⟨D, i, none⟩ (.bool li)).ownsRow D 4 1 (.slice (some ⟨D, 0, none⟩) P.length P.length) P.length ((fillB L (i + 1)).map .bool) from by
        have h := own_setAt hO5 (i := i) (.bool li)
        rw [set_mapB, HST.out] at h
        exact h)
      have HX6 := Lib.hid (ext_st HX5.out (p := ⟨D, i, none⟩) (by show w3.heap.size ≤ D; rw [HD.out]; exact Nat.le_refl _) (.bool li))
      clear hE5 hO5 c0 HEC hfl
      cases ev with
      | none =>
        obtain rfl : li = false := by rw [HLI.out]; simp
        go_wp2_with fail
        go_roundg (gk - 1)
        case measure => have := HK.out; omega
        case rel => exact ⟨i + 1, by have := HK.out; omega, by go_num, HX6.out, HS5.out⟩
      | some n =>
        by_cases hn : n = 1
        · subst hn
          obtain rfl : li = true := by rw [HLI.out]; simp
          go_wp2_with fail
          go_roundg (gk - 1)
          case measure => have := HK.out; omega
          case rel => exact ⟨i + 1, by have := HK.out; omega, by go_num, HX6.out, HS5.out⟩
        · obtain rfl : li = false := by rw [HLI.out]; simp [hn]
          have hn2 : (n == 1) = false := by rw [beq_eq_false_iff_ne]; exact hn
          clear hn
          go_wp2_with fail
          go_roundg (gk - 1)
          case measure => have := HK.out; omega
          case rel => exact ⟨i + 1, by have := HK.out; omega, by go_num, HX6.out, HS5.out⟩
    · obtain rfl : i = P.length := by omega
      have hiI : ¬ (P.length : Int) < (P.length : Int) := by omega
      have HFA := Lib.hid (show fillB L P.length = L from by rw [← HLL.out]; exact fillB_all L)
      rw [HFA.out] at HO
      clear hki hE hO
      go_wp2
      go_ret2
      exact ⟨_, rfl, own_down HO.out h33, HE3.out.trans HX.out⟩
end Go.Proofs.YtciihiiacbnimaaGreatDoor

namespace Go.Proofs.YtciihiiacbnimaaGreatDoor
open Go.RowKit
def tX : Tm := .n0 2 0
def tY : Tm := .n0 2 1
def t1 : Tm := .n0 1 1
def propT : List Tm := [.n2 7 0 tX t1, .n2 7 0 tX tY, .n2 6 0 tX tY]
theorem leaf_sub (k v : Int) (hk : k = 1 ∨ k = 2) (h0 : 0 ≤ v) (h1 : v ≤ 1) : Sub (.n0 k v) 2 := by
  have hv : v = 0 ∨ v = 1 := by omega
  refine ⟨?_, ?_, rfl⟩
  · simp only [Tm.ok]
    rcases hk with rfl | rfl <;> exact ⟨by omega, by omega, by decide⟩
  · intro o ho
    simp only [Tm.flat, List.mem_singleton] at ho
    subst ho
    rcases hk with rfl | rfl <;> rcases hv with rfl | rfl <;> decide
theorem cmp_sub (k : Int) (hk : k = 6 ∨ k = 7) {a b : Tm} (ha : Sub a 2) (hb : Sub b 2) (ka : mkK a.kind = false) (kb : mkK b.kind = false) : Sub (.n2 k 0 a b) 2 := by
  refine ⟨ok_n2 (by omega) ha.ok hb.ok, good_n2 (by omega) (by omega) ha.good hb.good, ?_⟩
  have ht : tkK k = false := by rcases hk with rfl | rfl <;> rfl
  simp [Tm.typed, ha.typed, hb.typed, ka, kb, ht]
theorem propT_ok : PropsOk 2 propT := by
  have hx := leaf_sub 2 0 (.inr rfl) (by omega) (by omega)
  have hy := leaf_sub 2 1 (.inr rfl) (by omega) (by omega)
  have h1 := leaf_sub 1 1 (.inl rfl) (by omega) (by omega)
  refine ⟨by decide, fun p hp => ?_⟩
  unfold propT at hp
  simp only [List.mem_cons, List.not_mem_nil, or_false] at hp
  rcases hp with rfl | rfl | rfl
  · exact ⟨cmp_sub 7 (.inr rfl) hx h1 rfl rfl, by decide, rfl⟩
  · exact ⟨cmp_sub 7 (.inr rfl) hx hy rfl rfl, by decide, rfl⟩
  · exact ⟨cmp_sub 6 (.inl rfl) hx hy rfl rfl, by decide, rfl⟩
theorem isT_lit (w : World) (T : TypeId) (k v : Int) (n : Nat) (hn : n = w.heap.size) : IsT (w.alloc (.cells #[.int .i64 k, .int .i64 v] T)) (.slice (some ⟨n, 0, none⟩) 1 1) (.n0 k v) :=
  ⟨_, _, rfl, Row.newK w T 2 n _ rfl hn⟩
theorem isTms_three {w : World} {a b c : Value} {x y z : Tm} (T : TypeId) (n : Nat) (hn : n = w.heap.size) (ha : IsT w a x) (hb : IsT w b y) (hc : IsT w c z) : IsTms (w.alloc (.cells #[a, b, c] T)) (.slice (some ⟨n, 0, none⟩) 3 3) [x, y, z] := by
  have hE := ext_al (Ext.refl w) (Obj.cells #[a, b, c] T)
  subst hn
  refine ⟨[[a], [b], [c]], rfl, by simp, ⟨_, _, rfl, Row.new w T [a, b, c] (by simp [maxLen])⟩, fun i cs s h1 h2 => ?_⟩
  match i with
  | 0 => simp at h1 h2; subst h1; subst h2; exact ⟨a, rfl, ha.ext hE⟩
  | 1 => simp at h1 h2; subst h1; subst h2; exact ⟨b, rfl, hb.ext hE⟩
  | 2 => simp at h1 h2; subst h1; subst h2; exact ⟨c, rfl, hc.ext hE⟩
  | i + 3 => simp at h1
set_option maxRecDepth 100000 in
set_option maxHeartbeats 8000000 in
theorem kprops_any (w : World) : Calls Tryz.prog 11 #[] w fun e w' => ∃ v, e = .returned v ∧ IsTms w' v propT ∧ Ext w w' := by
  have a1 := ext_al (Ext.refl w) (Obj.cells #[.int .i64 2, .int .i64 0] 102)
  have x1 := isT_lit w 102 2 0 _ rfl
  generalize hW1 : w.alloc (Obj.cells #[.int .i64 2, .int .i64 0] 102) = W1 at *
  have s1 : W1.heap.size = w.heap.size + 1 := by rw [← hW1]; simp
  have a2 := ext_al (Ext.refl W1) (Obj.cells #[.int .i64 2, .int .i64 1] 102)
  have y2 := isT_lit W1 102 2 1 (w.heap.size + 1) s1.symm
  generalize hW2 : W1.alloc (Obj.cells #[.int .i64 2, .int .i64 1] 102) = W2 at *
  have s2 : W2.heap.size = w.heap.size + 1 + 1 := by rw [← hW2]; simp [s1]
  have a3 := ext_al (Ext.refl W2) (Obj.cells #[.int .i64 1, .int .i64 1] 102)
  have z3 := isT_lit W2 102 1 1 (w.heap.size + 1 + 1) s2.symm
  generalize hW3 : W2.alloc (Obj.cells #[.int .i64 1, .int .i64 1] 102) = W3 at *
  have s3 : W3.heap.size = w.heap.size + 1 + 1 + 1 := by rw [← hW3]; simp [s2]
  have HJ1 := Lib.hid (joinT2 7 _ _ tX t1 W3 33 (x1.ext (a2.trans a3)) z3 (by decide))
  rw [s3] at HJ1
  have HA1 := Lib.hid a1
  have HX2 := Lib.hid (x1.ext a2)
  have HY2 := Lib.hid y2
  have HA2 := Lib.hid (a1.trans a2)
  have HA3 := Lib.hid a3
  subst hW3
  subst hW2
  subst hW1
  clear x1 y2 z3 a1 a2 a3 s1 s2 s3
  go_enter Tryz.func11, Tryz.ntmps11
  go_wp2_with fail
  refine HJ1.out.mono ?_
  rintro e w4 ⟨v4, rfl, h4, hE4⟩
  have HX4 := Lib.hid (HX2.out.ext (HA3.out.trans (Ext.trans (Ext.refl _) hE4)))
  have HY4 := Lib.hid (HY2.out.ext (HA3.out.trans hE4))
  have HE4 := Lib.hid ((HA2.out.trans HA3.out).trans hE4)
  have H4 := Lib.hid h4
  obtain ⟨b4, n4, c4, rfl⟩ := h4.val
  clear h4 hE4 HJ1
  go_wp2_with fail
  refine (joinT2 7 _ _ tX tY w4 _ HX4.out HY4.out (by decide)).mono ?_
  rintro e w5 ⟨v5, rfl, h5, hE5⟩
  have H5 := Lib.hid h5
  have HX5 := Lib.hid (HX4.out.ext hE5)
  have HY5 := Lib.hid (HY4.out.ext hE5)
  have HE5 := Lib.hid (HE4.out.trans hE5)
  have H45 := Lib.hid (H4.out.ext hE5)
  obtain ⟨b5, n5, c5, rfl⟩ := h5.val
  clear h5 hE5
  go_wp2_with fail
  refine (joinT2 6 _ _ tX tY w5 _ HX5.out HY5.out (by decide)).mono ?_
  rintro e w6 ⟨v6, rfl, h6, hE6⟩
  have H6 := Lib.hid (isTms_three 33 w6.heap.size rfl (H45.out.ext hE6) (H5.out.ext hE6) h6)
  have HE6 := Lib.hid (HE5.out.trans (hE6.trans (ext_al (Ext.refl w6) (Obj.cells #[.slice b4 n4 c4, .slice b5 n5 c5, v6] 33))))
  obtain ⟨b6, n6, c6, rfl⟩ := h6.val
  clear h6 hE6
  go_wp2
  go_ret
  exact ⟨_, rfl, H6.out, HE6.out⟩
end Go.Proofs.YtciihiiacbnimaaGreatDoor
