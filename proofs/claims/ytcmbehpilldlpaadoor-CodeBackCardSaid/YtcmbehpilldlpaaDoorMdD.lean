/- The contracts of model.Check, Props, Count. -/
import Derived.Test.YtcmbehpilldlpaaDoorMdC
namespace Go.Proofs.YtcmbehpilldlpaaDoor
open Go.RowKit

set_option maxRecDepth 100000 in
set_option maxHeartbeats 4000000 in
theorem mcheck_any (vv rv : Value) (m : Md) (w : World) (h : IsMd w vv rv m) (ht : Tab w) (hp : m.Pre) :
    Calls Tryd.prog 17 #[.agg #[vv, rv]] w fun e w' => e = .returned (.int .i64 (modelE m)) ∧ Ext w w' := by
  obtain ⟨av, cv, rfl⟩ := EachL.val h.vars
  obtain ⟨a, c, rfl, _, b, off, ha, hcells⟩ := h.rules.at
  have h6 := hp.six
  have h12 := hp.twelve
  have hE0 := ext_al (Ext.refl w) (Obj.cells #[.slice av m.vars.length cv, .slice a m.rules.length c] 29)
  have HVA := Lib.hid (vars_any _ m.vars _ (h.vars.ext hE0) hp.six hp.vars hp.count)
  have HA := Lib.hid ha
  have HC := Lib.hid hcells
  have HRP := Lib.hid hp.rules
  have HT := Lib.hid ht
  obtain ⟨res, hres⟩ : ∃ r, modelE m = r := ⟨_, rfl⟩
  rw [hres]
  have HR := Lib.hid (show (if (m.vars.map (·.name)).Nodup then rulesE m.rules else 7) = res from hres)
  have hbk := blk_new w (Obj.cells #[.slice av m.vars.length cv, .slice a m.rules.length c] 29)
  have HB := Lib.hid hbk
  have HE := Lib.hid hE0
  clear h ha hcells hp ht hres hbk hE0
  generalize (m.vars.map (·.name)) = names at *
  generalize m.vars.length = n at *
  generalize m.rules = l at *
  go_enter Tryd.func17, Tryd.ntmps17
  go_wp2_with fail
  generalize w.alloc (Obj.cells #[.slice av n cv, .slice a l.length c] 29) = W1 at *
  refine HVA.out.mono ?_
  rintro e w2 ⟨rfl, hE2⟩
  have hbk := blk_ext HB.out hE2
  have d0 := blk_cell hbk (i := 0) (v := .slice av n cv) rfl
  have d1 := blk_cell hbk (i := 1) (v := .slice a l.length c) rfl
  have HB2 := Lib.hid hbk
  have HE2 := Lib.hid (HE.out.trans hE2)
  clear hbk hE2 HVA HB HE
  by_cases hnd : names.Nodup
  case neg =>
    have HNO := Lib.hid hnd
    obtain rfl : res = 7 := by rw [← HR.out, if_neg HNO.out]
    rw [if_neg hnd]
    clear hnd d0 d1
    go_wp2
    go_ret
    exact ⟨rfl, HE2.out⟩
  case pos =>
    rw [if_pos hnd]
    have HR2 := Lib.hid (show rulesE l = res by rw [← HR.out, if_pos hnd])
    clear HR hnd
    go_wp2_with fail
    clear d0 d1
    go_loopg [20] l.length (fun m y wr => ∃ i : Nat, m + i = l.length ∧ y = .int .i64 (i : Int) ∧ Ext w2 wr ∧ ∀ j (h : j < l.length), j < i → ruleE l[j] = 0)
    case atStart => exact ⟨0, by omega, by go_num, Ext.refl _, fun j h hj => by omega⟩
    case round =>
      obtain ⟨i, hm, rfl, hE, hno⟩ := hrel
      have HM := Lib.hid hm
      have HNO := Lib.hid hno
      clear hno hm
      by_cases hi : i < l.length
      · obtain rfl := HA.out (by omega)
        obtain ⟨g, s, c0, c1, hg, hs⟩ := HC.out i hi
        have hEW := HE2.out.trans hE
        have c0 := cell_later hEW c0
        have c1 := cell_later hEW c1
        obtain ⟨ag, ng, cg, rfl⟩ := hg.val
        obtain ⟨sa, sc, rfl⟩ := EachL.val hs
        have hx := ext_al (Ext.refl wr) (Obj.cells #[.slice ag ng cg, .slice sa l[i].sets.length sc] 42)
        have hRU := rule_any _ _ l[i] (n : Int) _ (hg.ext (hEW.trans hx)) (hs.ext (hEW.trans hx)) (HT.out.ext (hEW.trans hx)) (by omega) (by omega) (HRP.out l[i] (by simp))
        have d0 := cell_later (hE.trans hx) (blk_cell HB2.out (i := 0) (v := .slice av n cv) rfl)
        have HRU := Lib.hid hRU
        have HX := Lib.hid (hE.trans hx)
        obtain ⟨re, hre⟩ : ∃ r, ruleE l[i] = r := ⟨_, rfl⟩
        rw [hre] at HRU
        have HRE := Lib.hid hre
        have hiI : (i : Int) < (l.length : Int) := by omega
        have hi0 : (0 : Int) ≤ (i : Int) := by omega
        clear hE hEW hg hs hx hRU hre
        go_wp2_with fail
        refine HRU.out.mono ?_
        rintro e w4 ⟨rfl, hE4⟩
        have HE4 := Lib.hid (HX.out.trans hE4)
        clear hE4 d0 c0 c1 HRU HX
        by_cases h0 : re = 0
        · subst h0
          go_wp2_with fail
          go_roundg (gk - 1)
          case measure => have := HM.out; omega
          case rel => exact ⟨i + 1, by have := HM.out; omega, by go_num, HE4.out, fun j h hj => by
            by_cases e : j = i
            · subst e; exact HRE.out
            · exact HNO.out j h (by omega)⟩
        · have h0I : (re == 0) = false := by rw [beq_eq_false_iff_ne]; exact h0
          have h0J : (re != 0) = true := by rw [bne_iff_ne]; exact h0
          obtain rfl : res = re := by rw [← HR2.out, rulesE_at hi HNO.out (by rw [HRE.out]; exact h0), HRE.out]
          have HEF := Lib.hid (HE2.out.trans HE4.out)
          clear h0
          go_wp2
          go_ret
          exact ⟨rfl, HEF.out⟩
      · obtain rfl : res = 0 := by rw [← HR2.out]; exact rulesE_all fun j h => HNO.out j h (by omega)
        have HEF := Lib.hid (HE2.out.trans hE)
        have hiI : ¬ (i : Int) < (l.length : Int) := by omega
        clear hE
        go_wp2
        go_ret
        exact ⟨rfl, HEF.out⟩

theorem mcheck_ok (vv rv : Value) (m : Md) (w : World) (h : IsMd w vv rv m) (ht : Tab w) (hp : m.Ok) :
    Calls Tryd.prog 17 #[.agg #[vv, rv]] w fun e w' => e = .returned (.int .i64 0) ∧ Ext w w' := by
  have := mcheck_any vv rv m w h ht hp.toPre
  rw [hp.e] at this
  exact this

set_option maxRecDepth 100000 in
set_option maxHeartbeats 4000000 in
theorem count_any (vv rv : Value) (m : Md) (w : World) (h : IsMd w vv rv m) (ht : Tab w) (hp : m.Ok) :
    Calls Tryd.prog 18 #[.agg #[vv, rv]] w fun e w' => e = .returned (.tuple #[.int .i64 (countL m.vars), .int .i64 0]) ∧ Ext w w' := by
  have hE0 := ext_al (Ext.refl w) (Obj.cells #[vv, rv] 29)
  have HCK := Lib.hid (mcheck_ok vv rv m _ (h.ext hE0) (ht.ext hE0) hp)
  obtain ⟨av, cv, rfl, _, b, off, ha, hcells⟩ := h.vars.at
  obtain ⟨a, c, rfl⟩ := EachL.val h.rules
  have h6 := hp.six
  have hbk := blk_new w (Obj.cells #[.slice av m.vars.length cv, .slice a m.rules.length c] 29)
  have HB := Lib.hid hbk
  have HE := Lib.hid hE0
  have HA := Lib.hid ha
  have HC := Lib.hid hcells
  have HV := Lib.hid hp.vars
  have HN := Lib.hid hp.count
  clear h ha hcells hp ht hbk hE0
  generalize m.rules.length = nr at *
  generalize m.vars = l at *
  go_enter Tryd.func18, Tryd.ntmps18
  have d0 := blk_cell HB.out (i := 0) (v := .slice av l.length cv) rfl
  have d1 := blk_cell HB.out (i := 1) (v := .slice a nr c) rfl
  go_wp2_with fail
  generalize w.alloc (Obj.cells #[.slice av l.length cv, .slice a nr c] 29) = W1 at *
  refine HCK.out.mono ?_
  rintro e w2 ⟨rfl, hE2⟩
  have d0 := cell_later hE2 d0
  have HE2 := Lib.hid (HE.out.trans hE2)
  clear hE2 HCK HB HE d1
  go_wp2_with fail
  clear d0
  go_loopg [5, 16] l.length (fun m x y wr => ∃ i : Nat, m + i = l.length ∧ y = .int .i64 (i : Int) ∧ x = .int .i64 (countL (l.take i)) ∧ Ext w wr)
  case atStart => exact ⟨0, by omega, by go_num, rfl, HE2.out⟩
  case round =>
    obtain ⟨i, hm, rfl, rfl, hE⟩ := hrel
    have HM := Lib.hid hm
    clear hm HE2
    by_cases hi : i < l.length
    · obtain rfl := HA.out (by omega)
      obtain ⟨c0, c1, c2, c3⟩ := HC.out i hi
      have c0 := cell_later hE c0
      have c1 := cell_later hE c1
      have c2 := cell_later hE c2
      have c3 := cell_later hE c3
      have hok := HV.out l[i] (by simp)
      have hsp := hok.span
      have hct := countL_take (l := l) HV.out i
      have hct2 := countL_take (l := l) HV.out (i + 1)
      have hcs := countL_snoc hi
      have hn4 := HN.out
      have o1 := hok.low
      have o2 := hok.high
      have o3 := hok.i0
      have o4 := hok.i1
      unfold Vr.span at hsp hcs
      have HCS := Lib.hid hcs
      have p9 : IntKind.i64.wrap (countL (l.take i) * (l[i].high - l[i].low + 1)) = countL (l.take (i + 1)) := by rw [← HCS.out]; exact IntWalk.i64_in _ (by omega)
      have hiI : (i : Int) < (l.length : Int) := by omega
      have hi0 : (0 : Int) ≤ (i : Int) := by omega
      have HX := Lib.hid (hE.trans (ext_al (Ext.refl wr) (Obj.cells (vrc l[i]).toArray 32)))
      simp only [vrc] at HX
      clear hE hcs hok
      go_wp2_with fail
      go_roundg (gk - 1)
      case measure => have := HM.out; omega
      case rel => exact ⟨i + 1, by have := HM.out; omega, by go_num, rfl, HX.out⟩
    · have hil : i = l.length := by have := HM.out; omega
      have HEX := Lib.hid hE
      have HTL := Lib.hid (show countL (l.take i) = countL l by rw [List.take_of_length_le (by omega)])
      have hiI : ¬ (i : Int) < (l.length : Int) := by omega
      rw [HTL.out]
      clear hE hil
      go_wp2
      go_ret2
      exact ⟨rfl, HEX.out⟩

end Go.Proofs.YtcmbehpilldlpaaDoor
