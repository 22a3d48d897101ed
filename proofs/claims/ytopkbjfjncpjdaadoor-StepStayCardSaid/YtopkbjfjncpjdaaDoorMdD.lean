/- MdD: what is needed of it. No condition. -/
import Derived.Test.YtopkbjfjncpjdaaDoorMdB
namespace Go.Proofs.YtopkbjfjncpjdaaDoor
open Go.RowKit
set_option maxRecDepth 100000 in
set_option maxHeartbeats 4000000 in
theorem rule_any (g sv : Value) (r : Rl) (n : Int) (w : World) (hg : IsT w g r.guard) (hs : IsSets w sv r.sets) (ht : Tab w) (h0 : 0 ≤ n) (h6 : n ≤ 6) (hr : RlPre n r) :
    Calls Tryd.prog 21 #[.agg #[g, sv], .int .i64 n] w fun e w' => e = .returned (.int .i64 (ruleE r)) ∧ Ext w w' := by
  obtain ⟨a, c, rfl, _, b, off, ha, hcells⟩ := hs.at
  have hm6 := hr.many
  have HKG := Lib.hid fun wx (hx : Ext w wx) => kind_any g r.guard n true wx (hg.ext hx) (ht.ext hx) h0 h6 hr.guard hr.gsize
  have HA := Lib.hid ha
  have HC := Lib.hid hcells
  have HS := Lib.hid hr.sets
  have HT := Lib.hid ht
  have HKE := Lib.hid (show kindE r.guard true = if mkK r.guard.kind = true then 0 else 5 from rfl)
  have HR := Lib.hid (show ruleE r = if mkK r.guard.kind = true then (if (r.sets.map (·.1)).Nodup then 0 else 7) else 5 from rfl)
  obtain ⟨ag, ng, cg, rfl⟩ := hg.val
  have hmm := @run_makeMap Tryd.prog
  generalize ruleE r = res at *
  generalize kindE r.guard true = kr at *
  generalize mkK r.guard.kind = bk at *
  generalize r.sets = l at *
  clear hs ha hcells hr ht hg
  go_enter Tryd.func21, Tryd.ntmps21
  have hbk := blk_new w (Obj.cells #[.slice ag ng cg, .slice a l.length c] 40)
  have HE := Lib.hid (ext_al (Ext.refl w) (Obj.cells #[.slice ag ng cg, .slice a l.length c] 40))
  have HB := Lib.hid hbk
  clear hbk
  go_wp2_with fail
  generalize w.alloc (Obj.cells #[.slice ag ng cg, .slice a l.length c] 40) = W1 at *
  refine (HKG.out _ HE.out).mono ?_
  rintro e w2 ⟨rfl, hE2⟩
  have hbk := blk_ext HB.out hE2
  have d1 := blk_cell hbk (i := 1) (v := .slice a l.length c) rfl
  have HE2 := Lib.hid (HE.out.trans hE2)
  clear hbk hE2 HKG HB HE
  cases bk
  · obtain rfl : kr = 5 := HKE.out
    obtain rfl : res = 5 := HR.out
    clear d1
    go_wp2
    go_ret
    exact ⟨rfl, HE2.out⟩
  · obtain rfl : kr = 0 := HKE.out
    have HR2 := Lib.hid (show res = if (l.map (·.1)).Nodup then 0 else 7 from HR.out)
    have d2 := cell_later (ext_al (Ext.refl w2) (Obj.map #[] 0)) d1
    clear HR
    go_wp2_with fail
    clear d1 d2 hmm
    have HM0 := Lib.hid (MapG.new encI w2)
    have HE0 := Lib.hid (HE2.out.trans (ext_al (Ext.refl w2) (Obj.map #[] 0)))
    go_loopg [27] l.length (fun m y wr => ∃ i : Nat, m + i = l.length ∧ y = .int .i64 (i : Int) ∧ Ext w wr ∧ MapG encI wr w2.heap.size (seenL ((l.map (·.1)).take i)) ∧ ((l.map (·.1)).take i).Nodup)
    case atStart => exact ⟨0, by omega, by go_num, HE0.out, HM0.out, by simp⟩
    case round =>
      obtain ⟨i, hm, rfl, hE, hM, hnd⟩ := hrel
      have HM := Lib.hid hm
      have HND := Lib.hid hnd
      clear hnd hm HM0 HE0
      by_cases hi : i < l.length
      · obtain rfl := HA.out (by omega)
        obtain ⟨u, c0, c1, hu⟩ := HC.out i hi
        obtain ⟨s1, s2, s3, s4, s5⟩ := HS.out l[i] (by simp)
        have c0 := cell_later hE c0
        have c1 := cell_later hE c1
        have HKV := Lib.hid fun wx (hx : Ext w wx) => kind_any u l[i].2 n false wx (hu.ext hx) (HT.out.ext hx) h0 h6 s3 s4
        have HK0 := Lib.hid (show kindE l[i].2 false = 0 by unfold kindE; rw [s5]; rfl)
        obtain ⟨au, nu, cu, rfl⟩ := hu.val
        have HLI := Lib.hid (show (l.map (·.1))[i]? = some l[i].1 by rw [List.getElem?_map, List.getElem?_eq_getElem hi]; rfl)
        have hil : i < (l.map (·.1)).length := by simpa using hi
        have HLE := Lib.hid (show (l.map (·.1))[i] = l[i].1 by simp)
        have hiI : (i : Int) < (l.length : Int) := by omega
        have hi0 : (0 : Int) ≤ (i : Int) := by omega
        have q1 : ¬ l[i].1 < 0 := by omega
        have q2 : ¬ n ≤ l[i].1 := by omega
        have hx := ext_al (Ext.refl wr) (Obj.cells #[.int .i64 l[i].1, .slice au nu cu] 45)
        have hbk := blk_new wr (Obj.cells #[.int .i64 l[i].1, .slice au nu cu] 45)
        have e0 := blk_cell hbk (i := 0) (v := .int .i64 l[i].1) rfl
        have hwM := hM.lt
        have HMX := Lib.hid (hM.ext hx)
        have HEX := Lib.hid (hE.trans hx)
        have HBK := Lib.hid hbk
        have hx3 := ext_al (Ext.refl (wr.alloc (Obj.cells #[.int .i64 l[i].1, .slice au nu cu] 45))) (Obj.cells #[] 76)
        have HX3 := Lib.hid hx3
        have e1 := cell_later hx3 e0
        have hmw : ¬ wr.heap.size = w2.heap.size := by omega
        have hw2 := HE2.out.size
        clear hM hE hx hbk hu s3 s4 s5 hx3
        by_cases hin : l[i].1 ∈ (l.map (·.1)).take i
        · have hno : ¬ (l.map (·.1)).Nodup := nodup_not hil (by rw [HLE.out]; exact hin)
          have HNO := Lib.hid hno
          have HIN := Lib.hid (seen_some hin)
          obtain rfl : res = 7 := by rw [HR2.out, if_neg HNO.out]
          clear hin hno
          go_wp2_with (refine wpl_lookup_g Tryd.keyI Tryd.underlying79 rfl rfl HMX.out rfl rfl HIN.out ?_)
          go_ret
          exact ⟨rfl, HEX.out.trans HX3.out⟩
        · have HIN := Lib.hid (seen_none hin)
          have HND2 := Lib.hid (nodup_take hil HND.out (by rw [HLE.out]; exact hin))
          clear hin
          go_wp2_with (first
            | (refine wpl_lookup_gn Tryd.keyI Tryd.underlying79 rfl rfl HMX.out rfl rfl (Tryd.zeroU _) HIN.out ?_)
            | (at_mapUpdate; go_must (refine wpl_update_g Tryd.keyI Tryd.underlying79 rfl rfl (HMX.out.ext HX3.out) rfl rfl HIN.out ?_)))
          intro w3 hm3 hg3 hs3
          have hbk := blk_grown (blk_ext HBK.out HX3.out) hg3 (by intro e; injection e with e; exact hmw e)
          have hE3 : Ext w w3 := Below.grown (HEX.out.trans HX3.out) hg3 (HEX.out.trans HX3.out).size (fun b hb => by injection hb with hb; omega)
          have d1 := blk_cell hbk (i := 1) (v := .slice au nu cu) rfl
          rw [seen_snoc] at hm3
          have HM3 := Lib.hid hm3
          have HKV2 := Lib.hid (HKV.out _ hE3)
          rw [HK0.out] at HKV2
          have HE3 := Lib.hid hE3
          have HTI := Lib.hid (show (l.map (·.1)).take (i + 1) = (l.map (·.1)).take i ++ [l[i].1] by rw [List.take_succ_eq_append_getElem hil, HLE.out])
          clear hm3 hE3 hg3 hs3 hbk e0 e1 c0 c1
          go_wp2_with fail
          refine HKV2.out.mono ?_
          rintro e w4 ⟨rfl, hE4⟩
          have HM4 := Lib.hid (HM3.out.ext hE4)
          have HE4 := Lib.hid (HE3.out.trans hE4)
          clear hE4 d1
          go_wp2_with fail
          go_roundg (gk - 1)
          case measure => have := HM.out; omega
          case rel => exact ⟨i + 1, by have := HM.out; omega, by go_num, HE4.out, by rw [HTI.out]; exact HM4.out, HND2.out⟩
      · have hnd : (l.map (·.1)).Nodup := by
          have := HND.out
          rw [List.take_of_length_le (by simp; omega)] at this
          exact this
        have HNO := Lib.hid hnd
        have HEX := Lib.hid hE
        have hiI : ¬ (i : Int) < (l.length : Int) := by omega
        obtain rfl : res = 0 := by rw [HR2.out, if_pos HNO.out]
        clear hM hE hnd
        go_wp2
        go_ret
        exact ⟨rfl, HEX.out⟩
end Go.Proofs.YtopkbjfjncpjdaaDoor
namespace Go.Proofs.YtopkbjfjncpjdaaDoor
open Go.RowKit
set_option maxRecDepth 100000 in
set_option maxHeartbeats 4000000 in
theorem mcheck_any (vv rv : Value) (m : Md) (w : World) (h : IsMd w vv rv m) (ht : Tab w) (hp : m.Pre) :
    Calls Tryd.prog 13 #[.agg #[vv, rv]] w fun e w' => e = .returned (.int .i64 (modelE m)) ∧ Ext w w' := by
  obtain ⟨av, cv, rfl⟩ := EachL.val h.vars
  obtain ⟨a, c, rfl, _, b, off, ha, hcells⟩ := h.rules.at
  have h6 := hp.six
  have h12 := hp.twelve
  have hE0 := ext_al (Ext.refl w) (Obj.cells #[.slice av m.vars.length cv, .slice a m.rules.length c] 29)
  have HVA := Lib.hid (vars_any _ m.vars _ (h.vars.ext hE0) hp.six hp.vars hp.count)
  have HA := Lib.hid ha
  have HC := Lib.hid hcells
  have HRP := Lib.hid hp.rules
  have HT := Lib.hid ht
  obtain ⟨res, hres⟩ : ∃ r, modelE m = r := ⟨_, rfl⟩
  rw [hres]
  have HR := Lib.hid (show (if (m.vars.map (·.name)).Nodup then rulesE m.rules else 7) = res from hres)
  have hbk := blk_new w (Obj.cells #[.slice av m.vars.length cv, .slice a m.rules.length c] 29)
  have HB := Lib.hid hbk
  have HE := Lib.hid hE0
  clear h ha hcells hp ht hres hbk hE0
  generalize (m.vars.map (·.name)) = names at *
  generalize m.vars.length = n at *
  generalize m.rules = l at *
  go_enter Tryd.func13, Tryd.ntmps13
  go_wp2_with fail
  generalize w.alloc (Obj.cells #[.slice av n cv, .slice a l.length c] 29) = W1 at *
  refine HVA.out.mono ?_
  rintro e w2 ⟨rfl, hE2⟩
  have hbk := blk_ext HB.out hE2
  have d0 := blk_cell hbk (i := 0) (v := .slice av n cv) rfl
  have d1 := blk_cell hbk (i := 1) (v := .slice a l.length c) rfl
  have HB2 := Lib.hid hbk
  have HE2 := Lib.hid (HE.out.trans hE2)
  clear hbk hE2 HVA HB HE
  by_cases hnd : names.Nodup
  case neg =>
    have HNO := Lib.hid hnd
    obtain rfl : res = 7 := by rw [← HR.out, if_neg HNO.out]
    rw [if_neg hnd]
    clear hnd d0 d1
    go_wp2
    go_ret
    exact ⟨rfl, HE2.out⟩
  case pos =>
    rw [if_pos hnd]
    have HR2 := Lib.hid (show rulesE l = res by rw [← HR.out, if_pos hnd])
    clear HR hnd
    go_wp2_with fail
    clear d0 d1
    go_loopg [20] l.length (fun m y wr => ∃ i : Nat, m + i = l.length ∧ y = .int .i64 (i : Int) ∧ Ext w2 wr ∧ ∀ j (h : j < l.length), j < i → ruleE l[j] = 0)
    case atStart => exact ⟨0, by omega, by go_num, Ext.refl _, fun j h hj => by omega⟩
    case round =>
      obtain ⟨i, hm, rfl, hE, hno⟩ := hrel
      have HM := Lib.hid hm
      have HNO := Lib.hid hno
      clear hno hm
      by_cases hi : i < l.length
      · obtain rfl := HA.out (by omega)
        obtain ⟨g, s, c0, c1, hg, hs⟩ := HC.out i hi
        have hEW := HE2.out.trans hE
        have c0 := cell_later hEW c0
        have c1 := cell_later hEW c1
        obtain ⟨ag, ng, cg, rfl⟩ := hg.val
        obtain ⟨sa, sc, rfl⟩ := EachL.val hs
        have hx := ext_al (Ext.refl wr) (Obj.cells #[.slice ag ng cg, .slice sa l[i].sets.length sc] 40)
        have hRU := rule_any _ _ l[i] (n : Int) _ (hg.ext (hEW.trans hx)) (hs.ext (hEW.trans hx)) (HT.out.ext (hEW.trans hx)) (by omega) (by omega) (HRP.out l[i] (by simp))
        have d0 := cell_later (hE.trans hx) (blk_cell HB2.out (i := 0) (v := .slice av n cv) rfl)
        have HRU := Lib.hid hRU
        have HX := Lib.hid (hE.trans hx)
        obtain ⟨re, hre⟩ : ∃ r, ruleE l[i] = r := ⟨_, rfl⟩
        rw [hre] at HRU
        have HRE := Lib.hid hre
        have hiI : (i : Int) < (l.length : Int) := by omega
        have hi0 : (0 : Int) ≤ (i : Int) := by omega
        clear hE hEW hg hs hx hRU hre
        go_wp2_with fail
        refine HRU.out.mono ?_
        rintro e w4 ⟨rfl, hE4⟩
        have HE4 := Lib.hid (HX.out.trans hE4)
        clear hE4 d0 c0 c1 HRU HX
        by_cases h0 : re = 0
        · subst h0
          go_wp2_with fail
          go_roundg (gk - 1)
          case measure => have := HM.out; omega
          case rel => exact ⟨i + 1, by have := HM.out; omega, by go_num, HE4.out, fun j h hj => by
            by_cases e : j = i
            · subst e; exact HRE.out
            · exact HNO.out j h (by omega)⟩
        · have h0I : (re == 0) = false := by rw [beq_eq_false_iff_ne]; exact h0
          have h0J : (re != 0) = true := by rw [bne_iff_ne]; exact h0
          obtain rfl : res = re := by rw [← HR2.out, rulesE_at hi HNO.out (by rw [HRE.out]; exact h0), HRE.out]
          have HEF := Lib.hid (HE2.out.trans HE4.out)
          clear h0
          go_wp2
          go_ret
          exact ⟨rfl, HEF.out⟩
      · obtain rfl : res = 0 := by rw [← HR2.out]; exact rulesE_all fun j h => HNO.out j h (by omega)
        have HEF := Lib.hid (HE2.out.trans hE)
        have hiI : ¬ (i : Int) < (l.length : Int) := by omega
        clear hE
        go_wp2
        go_ret
        exact ⟨rfl, HEF.out⟩
theorem mcheck_ok (vv rv : Value) (m : Md) (w : World) (h : IsMd w vv rv m) (ht : Tab w) (hp : m.Ok) :
    Calls Tryd.prog 13 #[.agg #[vv, rv]] w fun e w' => e = .returned (.int .i64 0) ∧ Ext w w' := by
  have := mcheck_any vv rv m w h ht hp.toPre
  rw [hp.e] at this
  exact this
set_option maxRecDepth 100000 in
set_option maxHeartbeats 4000000 in
theorem count_any (vv rv : Value) (m : Md) (w : World) (h : IsMd w vv rv m) (ht : Tab w) (hp : m.Ok) :
    Calls Tryd.prog 5 #[.agg #[vv, rv]] w fun e w' => e = .returned (.tuple #[.int .i64 (countL m.vars), .int .i64 0]) ∧ Ext w w' := by
  have hE0 := ext_al (Ext.refl w) (Obj.cells #[vv, rv] 29)
  have HCK := Lib.hid (mcheck_ok vv rv m _ (h.ext hE0) (ht.ext hE0) hp)
  obtain ⟨av, cv, rfl, _, b, off, ha, hcells⟩ := h.vars.at
  obtain ⟨a, c, rfl⟩ := EachL.val h.rules
  have h6 := hp.six
  have hbk := blk_new w (Obj.cells #[.slice av m.vars.length cv, .slice a m.rules.length c] 29)
  have HB := Lib.hid hbk
  have HE := Lib.hid hE0
  have HA := Lib.hid ha
  have HC := Lib.hid hcells
  have HV := Lib.hid hp.vars
  have HN := Lib.hid hp.count
  clear h ha hcells hp ht hbk hE0
  generalize m.rules.length = nr at *
  generalize m.vars = l at *
  go_enter Tryd.func5, Tryd.ntmps5
  have d0 := blk_cell HB.out (i := 0) (v := .slice av l.length cv) rfl
  have d1 := blk_cell HB.out (i := 1) (v := .slice a nr c) rfl
  go_wp2_with fail
  generalize w.alloc (Obj.cells #[.slice av l.length cv, .slice a nr c] 29) = W1 at *
  refine HCK.out.mono ?_
  rintro e w2 ⟨rfl, hE2⟩
  have d0 := cell_later hE2 d0
  have HE2 := Lib.hid (HE.out.trans hE2)
  clear hE2 HCK HB HE d1
  go_wp2_with fail
  clear d0
  go_loopg [5, 16] l.length (fun m x y wr => ∃ i : Nat, m + i = l.length ∧ y = .int .i64 (i : Int) ∧ x = .int .i64 (countL (l.take i)) ∧ Ext w wr)
  case atStart => exact ⟨0, by omega, by go_num, rfl, HE2.out⟩
  case round =>
    obtain ⟨i, hm, rfl, rfl, hE⟩ := hrel
    have HM := Lib.hid hm
    clear hm HE2
    by_cases hi : i < l.length
    · obtain rfl := HA.out (by omega)
      obtain ⟨c0, c1, c2, c3⟩ := HC.out i hi
      have c0 := cell_later hE c0
      have c1 := cell_later hE c1
      have c2 := cell_later hE c2
      have c3 := cell_later hE c3
      have hok := HV.out l[i] (by simp)
      have hsp := hok.span
      have hct := countL_take (l := l) HV.out i
      have hct2 := countL_take (l := l) HV.out (i + 1)
      have hcs := countL_snoc hi
      have hn4 := HN.out
      have o1 := hok.low
      have o2 := hok.high
      have o3 := hok.i0
      have o4 := hok.i1
      unfold Vr.span at hsp hcs
      have HCS := Lib.hid hcs
      have p9 : IntKind.i64.wrap (countL (l.take i) * (l[i].high - l[i].low + 1)) = countL (l.take (i + 1)) := by rw [← HCS.out]; exact IntWalk.i64_in _ (by omega)
      have hiI : (i : Int) < (l.length : Int) := by omega
      have hi0 : (0 : Int) ≤ (i : Int) := by omega
      have HX := Lib.hid (hE.trans (ext_al (Ext.refl wr) (Obj.cells (vrc l[i]).toArray 43)))
      simp only [vrc] at HX
      clear hE hcs hok
      go_wp2_with fail
      go_roundg (gk - 1)
      case measure => have := HM.out; omega
      case rel => exact ⟨i + 1, by have := HM.out; omega, by go_num, rfl, HX.out⟩
    · have hil : i = l.length := by have := HM.out; omega
      have HEX := Lib.hid hE
      have HTL := Lib.hid (show countL (l.take i) = countL l by rw [List.take_of_length_le (by omega)])
      have hiI : ¬ (i : Int) < (l.length : Int) := by omega
      rw [HTL.out]
      clear hE hil
      go_wp2
      go_ret2
      exact ⟨rfl, HEX.out⟩
end Go.Proofs.YtopkbjfjncpjdaaDoor
