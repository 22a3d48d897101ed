/- The contracts of model.Props, step.Letter, foretellkeep.props. -/
import Derived.Test.YtkkbefhnklpfaaaDoorMdV
namespace Go.Proofs.YtkkbefhnklpfaaaDoor
open Go.RowKit

/-- What propositions must be. -/
structure PropsOk (n : Int) (P : List Tm) : Prop where
  six : P.length ≤ 6
  each : ∀ p ∈ P, Sub p n ∧ p.size ≤ 60 ∧ mkK p.kind = true

set_option maxRecDepth 100000 in
set_option maxHeartbeats 8000000 in
theorem props_any (vv rv pv : Value) (m : Md) (P : List Tm) (w : World) (h : IsMd w vv rv m) (ht : Tab w) (hp : m.Ok) (hP : IsTms w pv P) (hk : PropsOk m.vars.length P) :
    Calls Tryd.prog 45 #[.agg #[vv, rv], pv] w fun e w' => e = .returned (.int .i64 0) ∧ Ext w w' := by
  have h6 := hk.six
  have hv6 := hp.six
  have HCK := Lib.hid fun wx (hx : Ext w wx) => mcheck_ok vv rv m wx (h.ext hx) (ht.ext hx) hp
  obtain ⟨ap, cp, rfl, _, b, off, ha, hcells⟩ := hP.at
  have HKI := Lib.hid fun (u : Value) (t : Tm) wx (hu : IsT w u t) (hx : Ext w wx) (hs : Sub t m.vars.length ∧ t.size ≤ 60 ∧ mkK t.kind = true) => (show Calls Tryd.prog 50 #[u, .int .i64 (m.vars.length : Int), .bool true] wx (fun e w' => e = .returned (.int .i64 0) ∧ Ext wx w') from by
    have := kind_any u t m.vars.length true wx (hu.ext hx) (ht.ext hx) (by omega) (by omega) hs.1 hs.2.1
    rw [show kindE t true = 0 by unfold kindE; rw [hs.2.2]; rfl] at this
    exact this)
  obtain ⟨av, cv, rfl⟩ := EachL.val h.vars
  obtain ⟨a, cr, rfl⟩ := EachL.val h.rules
  have hbk := blk_new w (Obj.cells #[.slice av m.vars.length cv, .slice a m.rules.length cr] 29)
  have HE := Lib.hid (ext_al (Ext.refl w) (Obj.cells #[.slice av m.vars.length cv, .slice a m.rules.length cr] 29))
  have HB := Lib.hid hbk
  have HA := Lib.hid ha
  have HC := Lib.hid hcells
  have HS := Lib.hid hk.each
  clear h ht hp hP hk ha hcells hbk
  generalize m.rules.length = nr at *
  generalize m.vars.length = nv at *
  go_enter Tryd.func45, Tryd.ntmps45
  have d0 := blk_cell HB.out (i := 0) (v := .slice av nv cv) rfl
  have d1 := blk_cell HB.out (i := 1) (v := .slice a nr cr) rfl
  go_wp2_with fail
  generalize w.alloc (Obj.cells #[.slice av nv cv, .slice a nr cr] 29) = W1 at *
  refine (HCK.out _ HE.out).mono ?_
  rintro e w2 ⟨rfl, hE2⟩
  have HB2 := Lib.hid (blk_ext HB.out hE2)
  have HE2 := Lib.hid (HE.out.trans hE2)
  clear hE2 HCK HB HE d0 d1
  go_wp2_with fail
  go_loopg [19] P.length (fun k x wr => ∃ i : Nat, k + i = P.length ∧ x = .int .i64 (i : Int) ∧ Ext w2 wr)
  case atStart => exact ⟨0, by omega, by go_num, Ext.refl _⟩
  case round =>
    obtain ⟨i, hki, rfl, hE⟩ := hrel
    have HK := Lib.hid hki
    have HX := Lib.hid hE
    by_cases hi : i < P.length
    · obtain rfl := HA.out (by omega)
      obtain ⟨u, c0, hu⟩ := HC.out i hi
      have c0 := cell_later (HE2.out.trans hE) c0
      have d0 := blk_cell (blk_ext HB2.out hE) (i := 0) (v := .slice av nv cv) rfl
      have HKC := Lib.hid (HKI.out u P[i] wr hu (HE2.out.trans hE) (HS.out P[i] (by simp)))
      obtain ⟨au, nu, cu, rfl⟩ := hu.val
      have hiI : (i : Int) < (P.length : Int) := by omega
      have hi0 : (0 : Int) ≤ (i : Int) := by omega
      clear hki hE hu
      go_wp2_with fail
      refine HKC.out.mono ?_
      rintro e w3 ⟨rfl, hE3⟩
      have HX3 := Lib.hid (HX.out.trans hE3)
      clear hE3 c0 d0 HKC
      go_wp2_with fail
      go_roundg (gk - 1)
      case measure => have := HK.out; omega
      case rel => exact ⟨i + 1, by have := HK.out; omega, by go_num, HX3.out⟩
    · have hiI : ¬ (i : Int) < (P.length : Int) := by omega
      clear hki hE
      go_wp2
      go_ret
      exact ⟨rfl, HE2.out.trans HX.out⟩

/-- The letter of values. -/
def letS (P : List Tm) (xs : List Int) : List Bool := P.map fun p => decide (evalT xs p = some 1)
theorem letS_len (P : List Tm) (xs : List Int) : (letS P xs).length = P.length := by simp [letS]
def fillB (L : List Bool) (i : Nat) : List Bool := L.take i ++ List.replicate (L.length - i) false
theorem fillB_len {L : List Bool} {i : Nat} (h : i ≤ L.length) : (fillB L i).length = L.length := by unfold fillB; simp; omega
theorem fillB_step {L : List Bool} {i : Nat} (h : i < L.length) : (fillB L i).set i L[i] = fillB L (i + 1) := by
  unfold fillB
  have e : L.length - i = (L.length - (i + 1)) + 1 := by omega
  rw [e, List.replicate_succ, List.set_append, if_neg (by simp; omega)]
  have e0 : i - (List.take i L).length = 0 := by simp; omega
  rw [e0, List.set_cons_zero, List.take_succ_eq_append_getElem h, List.append_assoc]
  rfl
theorem fillB_all (L : List Bool) : fillB L L.length = L := by unfold fillB; simp
theorem set_mapB (l : List Bool) (i : Nat) (x : Bool) : (l.map Value.bool).set i (.bool x) = (l.set i x).map Value.bool := by rw [List.map_set]
theorem Tryd.slBoolsS : SlTy Tryd.prog 73 4 (.bool false) 1 1 := SlTy.mk' Tryd.underlying73 (by kernel_rfl) (by rfl) (by omega)

set_option maxRecDepth 100000 in
set_option maxHeartbeats 8000000 in
theorem sletter_any (vv rv pv : Value) (m : Md) (P : List Tm) (c : Int) (w : World) (h : IsMd w vv rv m) (ht : Tab w) (hp : m.Ok) (hP : IsTms w pv P) (hk : PropsOk m.vars.length P) (hc0 : 0 ≤ c) (hc1 : c < countL m.vars) :
    Calls Tryd.prog 32 #[.agg #[vv, rv], pv, .int .i64 c] w fun e w' => ∃ v, e = .returned (.tuple #[v, .int .i64 0]) ∧ w'.ownsRow w.heap.size 4 1 v P.length ((letS P (valsL m.vars c)).map .bool) ∧ Ext w w' := by
  have h6 := hk.six
  have hv6 := hp.six
  have hvl := valsL_len m.vars c
  have hsm := small_of hp.vars (digL_in hp.vars c)
  have HPR := Lib.hid fun wx (hx : Ext w wx) => props_any vv rv pv m P wx (h.ext hx) (ht.ext hx) hp (hP.ext hx) hk
  have HVA := Lib.hid fun wx (hx : Ext w wx) => values_any vv rv m c wx (h.ext hx) (ht.ext hx) hp hc0 hc1
  obtain ⟨ap, cp, rfl, _, b, off, ha, hcells⟩ := hP.at
  have HEV := Lib.hid fun (u xv : Value) (t : Tm) wx (hu : IsT w u t) (hx : Ext w wx) (hi : Ints wx xv (valsL m.vars c)) (ht' : t ∈ P) => eval_t u xv t (valsL m.vars c) wx (hu.ext hx) hi (ht.ext hx) (by rw [hvl]; exact (hk.each t ht').1) (hk.each t ht').2.1 (by omega) hsm
  obtain ⟨av, cv, rfl⟩ := EachL.val h.vars
  obtain ⟨a, cr, rfl⟩ := EachL.val h.rules
  have hbk := blk_new w (Obj.cells #[.slice av m.vars.length cv, .slice a m.rules.length cr] 29)
  have HE := Lib.hid (ext_al (Ext.refl w) (Obj.cells #[.slice av m.vars.length cv, .slice a m.rules.length cr] 29))
  have HB := Lib.hid hbk
  have HA := Lib.hid ha
  have HC := Lib.hid hcells
  clear h ht hp hP hk ha hcells hbk hsm
  generalize m.rules.length = nr at *
  generalize m.vars.length = nv at *
  generalize valsL m.vars c = xs at *
  obtain ⟨L, hL⟩ : ∃ L, letS P xs = L := ⟨_, rfl⟩
  have hLl : L.length = P.length := by rw [← hL, letS_len]
  have HLA := Lib.hid fun (i : Nat) (hi : i < P.length) (hj : i < L.length) => (show L[i] = decide (evalT xs P[i] = some 1) by
    subst hL
    simp [letS])
  have HLL := Lib.hid hLl
  rw [hL]
  clear hL hLl
  go_enter Tryd.func32, Tryd.ntmps32
  have d0 := blk_cell HB.out (i := 0) (v := .slice av nv cv) rfl
  have d1 := blk_cell HB.out (i := 1) (v := .slice a nr cr) rfl
  go_wp2_with fail
  generalize w.alloc (Obj.cells #[.slice av nv cv, .slice a nr cr] 29) = W1 at *
  refine (HPR.out _ HE.out).mono ?_
  rintro e w2 ⟨rfl, hE2⟩
  have d0 := cell_later hE2 d0
  have d1 := cell_later hE2 d1
  have HE2 := Lib.hid (HE.out.trans hE2)
  clear hE2 HPR
  go_wp2_with fail
  refine (HVA.out _ HE2.out).mono ?_
  rintro e w3 ⟨xv, rfl, hox, hE3⟩
  have HE3 := Lib.hid (HE2.out.trans hE3)
  have HIX := Lib.hid (show Ints w3 xv xs from by
    have h := hox.reads
    unfold Ints
    rw [hvl]
    exact h)
  obtain ⟨ax, cx, rfl, _⟩ := hox.row
  have h33 := HE3.out.size
  clear hox hE3 HVA d0 d1 HB HE HE2
  go_wp2_with (at_make; go_must (refine wpList_make_full _ rfl _ _ 73 rfl w3.heap.size 4 (Tryd.slBoolsS.inf.choose) (.bool false) 1 Tryd.underlying73 Tryd.slBoolsS.inf.choose_spec.1 Tryd.slBoolsS.inf.choose_spec.2.1 Tryd.slBoolsS.inf.choose_spec.2.2.1 .i64 .i64 P.length P.length P.length rfl rfl rfl rfl (by rw [Tryd.slBoolsS.inf.choose_spec.2.2.2]; omega) (by unfold maxLen; omega) (Nat.le_refl _) ?_))
  intro w4 hown4 hg4
  have hmx : (madeCells #[Value.bool false] P.length).toList = (fillB L 0).map .bool := by
    rw [toList_madeCells_one, fillB, HLL.out]
    simp
  rw [hmx] at hown4
  have HO4 := Lib.hid hown4
  have HX4 := Lib.hid ((Ext.refl w3).grown hg4 (Nat.le_refl _) (by simp))
  obtain ⟨D, hD⟩ : ∃ D, w3.heap.size = D := ⟨_, rfl⟩
  rw [hD] at HO4 h33 ⊢
  have HD := Lib.hid hD
  clear hown4 hg4 hmx hD
  go_wp2_with fail
  go_loopg [36] P.length (fun k x wr => ∃ i : Nat, k + i = P.length ∧ x = .int .i64 (i : Int) ∧ Ext w3 wr ∧ wr.ownsRow D 4 1 (.slice (some ⟨D, 0, none⟩) P.length P.length) P.length ((fillB L i).map .bool))
  case atStart => exact ⟨0, by omega, by go_num, HX4.out, HO4.out⟩
  case round =>
    obtain ⟨i, hki, rfl, hE, hO⟩ := hrel
    clear HO4 HX4
    have HK := Lib.hid hki
    have HX := Lib.hid hE
    have HO := Lib.hid hO
    by_cases hi : i < P.length
    · have hiL : i < L.length := by have := HLL.out; omega
      obtain rfl := HA.out (by omega)
      obtain ⟨u, c0, hu⟩ := HC.out i hi
      have c0 := cell_later (HE3.out.trans hE) c0
      have HEC := Lib.hid (HEV.out u _ P[i] wr hu (HE3.out.trans hE) (HIX.out.ext hE) (by simp))
      have HLI := Lib.hid (HLA.out i hi hiL)
      have HST := Lib.hid (fillB_step hiL)
      obtain ⟨au, nu, cu, rfl⟩ := hu.val
      have hiI : (i : Int) < (P.length : Int) := by omega
      have hi0 : (0 : Int) ≤ (i : Int) := by omega
      have hfl := fillB_len (L := L) (i := i) (by omega)
      generalize evalT xs P[i] = ev at *
      generalize L[i] = li at *
      clear hki hE hu hO
      go_wp2_with fail
      refine HEC.out.mono ?_
      rintro e w5 ⟨hE5, rfl⟩
      have hO5 := own_ext HO.out hE5
      have fr := own_freeAt hO5 i
      obtain ⟨uu, cr5⟩ : ∃ uu, w5.cell? ⟨D, i, none⟩ = some uu := ⟨_, own_cellAt hO5 (i := i) (by rw [List.length_map, hfl]; exact hiL)⟩
      have HO5 := Lib.hid hO5
      have HX5 := Lib.hid (HX.out.trans hE5)
      have HS5 := Lib.hid (show (w5.setCell ⟨D, i, none⟩ (.bool li)).ownsRow D 4 1 (.slice (some ⟨D, 0, none⟩) P.length P.length) P.length ((fillB L (i + 1)).map .bool) from by
        have h := own_setAt hO5 (i := i) (.bool li)
        rw [set_mapB, HST.out] at h
        exact h)
      have HX6 := Lib.hid (ext_st HX5.out (p := ⟨D, i, none⟩) (by show w3.heap.size ≤ D; rw [HD.out]; exact Nat.le_refl _) (.bool li))
      clear hE5 hO5 c0 HEC hfl
      cases ev with
      | none =>
        obtain rfl : li = false := by rw [HLI.out]; simp
        go_wp2_with fail
        go_roundg (gk - 1)
        case measure => have := HK.out; omega
        case rel => exact ⟨i + 1, by have := HK.out; omega, by go_num, HX6.out, HS5.out⟩
      | some n =>
        by_cases hn : n = 1
        · subst hn
          obtain rfl : li = true := by rw [HLI.out]; simp
          go_wp2_with fail
          go_roundg (gk - 1)
          case measure => have := HK.out; omega
          case rel => exact ⟨i + 1, by have := HK.out; omega, by go_num, HX6.out, HS5.out⟩
        · obtain rfl : li = false := by rw [HLI.out]; simp [hn]
          have hn2 : (n == 1) = false := by rw [beq_eq_false_iff_ne]; exact hn
          clear hn
          go_wp2_with fail
          go_roundg (gk - 1)
          case measure => have := HK.out; omega
          case rel => exact ⟨i + 1, by have := HK.out; omega, by go_num, HX6.out, HS5.out⟩
    · obtain rfl : i = P.length := by omega
      have hiI : ¬ (P.length : Int) < (P.length : Int) := by omega
      have HFA := Lib.hid (show fillB L P.length = L from by rw [← HLL.out]; exact fillB_all L)
      rw [HFA.out] at HO
      clear hki hE hO
      go_wp2
      go_ret2
      exact ⟨_, rfl, own_down HO.out h33, HE3.out.trans HX.out⟩

end Go.Proofs.YtkkbefhnklpfaaaDoor
