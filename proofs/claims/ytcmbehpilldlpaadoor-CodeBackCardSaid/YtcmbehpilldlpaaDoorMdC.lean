/- The contract of model.rule. -/
import Derived.Test.YtcmbehpilldlpaaDoorMdB
namespace Go.Proofs.YtcmbehpilldlpaaDoor
open Go.RowKit

set_option maxRecDepth 100000 in
set_option maxHeartbeats 4000000 in
theorem rule_any (g sv : Value) (r : Rl) (n : Int) (w : World) (hg : IsT w g r.guard) (hs : IsSets w sv r.sets) (ht : Tab w) (h0 : 0 ≤ n) (h6 : n ≤ 6) (hr : RlPre n r) :
    Calls Tryd.prog 31 #[.agg #[g, sv], .int .i64 n] w fun e w' => e = .returned (.int .i64 (ruleE r)) ∧ Ext w w' := by
  obtain ⟨a, c, rfl, _, b, off, ha, hcells⟩ := hs.at
  have hm6 := hr.many
  have HKG := Lib.hid fun wx (hx : Ext w wx) => kind_any g r.guard n true wx (hg.ext hx) (ht.ext hx) h0 h6 hr.guard hr.gsize
  have HA := Lib.hid ha
  have HC := Lib.hid hcells
  have HS := Lib.hid hr.sets
  have HT := Lib.hid ht
  have HKE := Lib.hid (show kindE r.guard true = if mkK r.guard.kind = true then 0 else 5 from rfl)
  have HR := Lib.hid (show ruleE r = if mkK r.guard.kind = true then (if (r.sets.map (·.1)).Nodup then 0 else 7) else 5 from rfl)
  obtain ⟨ag, ng, cg, rfl⟩ := hg.val
  have hmm := @run_makeMap Tryd.prog
  generalize ruleE r = res at *
  generalize kindE r.guard true = kr at *
  generalize mkK r.guard.kind = bk at *
  generalize r.sets = l at *
  clear hs ha hcells hr ht hg
  go_enter Tryd.func31, Tryd.ntmps31
  have hbk := blk_new w (Obj.cells #[.slice ag ng cg, .slice a l.length c] 42)
  have HE := Lib.hid (ext_al (Ext.refl w) (Obj.cells #[.slice ag ng cg, .slice a l.length c] 42))
  have HB := Lib.hid hbk
  clear hbk
  go_wp2_with fail
  generalize w.alloc (Obj.cells #[.slice ag ng cg, .slice a l.length c] 42) = W1 at *
  refine (HKG.out _ HE.out).mono ?_
  rintro e w2 ⟨rfl, hE2⟩
  have hbk := blk_ext HB.out hE2
  have d1 := blk_cell hbk (i := 1) (v := .slice a l.length c) rfl
  have HE2 := Lib.hid (HE.out.trans hE2)
  clear hbk hE2 HKG HB HE
  cases bk
  · obtain rfl : kr = 5 := HKE.out
    obtain rfl : res = 5 := HR.out
    clear d1
    go_wp2
    go_ret
    exact ⟨rfl, HE2.out⟩
  · obtain rfl : kr = 0 := HKE.out
    have HR2 := Lib.hid (show res = if (l.map (·.1)).Nodup then 0 else 7 from HR.out)
    have d2 := cell_later (ext_al (Ext.refl w2) (Obj.map #[] 0)) d1
    clear HR
    go_wp2_with fail
    clear d1 d2 hmm
    have HM0 := Lib.hid (MapG.new encI w2)
    have HE0 := Lib.hid (HE2.out.trans (ext_al (Ext.refl w2) (Obj.map #[] 0)))
    go_loopg [27] l.length (fun m y wr => ∃ i : Nat, m + i = l.length ∧ y = .int .i64 (i : Int) ∧ Ext w wr ∧ MapG encI wr w2.heap.size (seenL ((l.map (·.1)).take i)) ∧ ((l.map (·.1)).take i).Nodup)
    case atStart => exact ⟨0, by omega, by go_num, HE0.out, HM0.out, by simp⟩
    case round =>
      obtain ⟨i, hm, rfl, hE, hM, hnd⟩ := hrel
      have HM := Lib.hid hm
      have HND := Lib.hid hnd
      clear hnd hm HM0 HE0
      by_cases hi : i < l.length
      · obtain rfl := HA.out (by omega)
        obtain ⟨u, c0, c1, hu⟩ := HC.out i hi
        obtain ⟨s1, s2, s3, s4, s5⟩ := HS.out l[i] (by simp)
        have c0 := cell_later hE c0
        have c1 := cell_later hE c1
        have HKV := Lib.hid fun wx (hx : Ext w wx) => kind_any u l[i].2 n false wx (hu.ext hx) (HT.out.ext hx) h0 h6 s3 s4
        have HK0 := Lib.hid (show kindE l[i].2 false = 0 by unfold kindE; rw [s5]; rfl)
        obtain ⟨au, nu, cu, rfl⟩ := hu.val
        have HLI := Lib.hid (show (l.map (·.1))[i]? = some l[i].1 by rw [List.getElem?_map, List.getElem?_eq_getElem hi]; rfl)
        have hil : i < (l.map (·.1)).length := by simpa using hi
        have HLE := Lib.hid (show (l.map (·.1))[i] = l[i].1 by simp)
        have hiI : (i : Int) < (l.length : Int) := by omega
        have hi0 : (0 : Int) ≤ (i : Int) := by omega
        have q1 : ¬ l[i].1 < 0 := by omega
        have q2 : ¬ n ≤ l[i].1 := by omega
        have hx := ext_al (Ext.refl wr) (Obj.cells #[.int .i64 l[i].1, .slice au nu cu] 39)
        have hbk := blk_new wr (Obj.cells #[.int .i64 l[i].1, .slice au nu cu] 39)
        have e0 := blk_cell hbk (i := 0) (v := .int .i64 l[i].1) rfl
        have hwM := hM.lt
        have HMX := Lib.hid (hM.ext hx)
        have HEX := Lib.hid (hE.trans hx)
        have HBK := Lib.hid hbk
        have hx3 := ext_al (Ext.refl (wr.alloc (Obj.cells #[.int .i64 l[i].1, .slice au nu cu] 39))) (Obj.cells #[] 75)
        have HX3 := Lib.hid hx3
        have e1 := cell_later hx3 e0
        have hmw : ¬ wr.heap.size = w2.heap.size := by omega
        have hw2 := HE2.out.size
        clear hM hE hx hbk hu s3 s4 s5 hx3
        by_cases hin : l[i].1 ∈ (l.map (·.1)).take i
        · have hno : ¬ (l.map (·.1)).Nodup := nodup_not hil (by rw [HLE.out]; exact hin)
          have HNO := Lib.hid hno
          have HIN := Lib.hid (seen_some hin)
          obtain rfl : res = 7 := by rw [HR2.out, if_neg HNO.out]
          clear hin hno
          go_wp2_with (refine wpl_lookup_g Tryd.keyI Tryd.underlying76 rfl rfl HMX.out rfl rfl HIN.out ?_)
          go_ret
          exact ⟨rfl, HEX.out.trans HX3.out⟩
        · have HIN := Lib.hid (seen_none hin)
          have HND2 := Lib.hid (nodup_take hil HND.out (by rw [HLE.out]; exact hin))
          clear hin
          go_wp2_with (first
            | (refine wpl_lookup_gn Tryd.keyI Tryd.underlying76 rfl rfl HMX.out rfl rfl (Tryd.zeroU _) HIN.out ?_)
            | (at_mapUpdate; go_must (refine wpl_update_g Tryd.keyI Tryd.underlying76 rfl rfl (HMX.out.ext HX3.out) rfl rfl HIN.out ?_)))
          intro w3 hm3 hg3 hs3
          have hbk := blk_grown (blk_ext HBK.out HX3.out) hg3 (by intro e; injection e with e; exact hmw e)
          have hE3 : Ext w w3 := Below.grown (HEX.out.trans HX3.out) hg3 (HEX.out.trans HX3.out).size (fun b hb => by injection hb with hb; omega)
          have d1 := blk_cell hbk (i := 1) (v := .slice au nu cu) rfl
          rw [seen_snoc] at hm3
          have HM3 := Lib.hid hm3
          have HKV2 := Lib.hid (HKV.out _ hE3)
          rw [HK0.out] at HKV2
          have HE3 := Lib.hid hE3
          have HTI := Lib.hid (show (l.map (·.1)).take (i + 1) = (l.map (·.1)).take i ++ [l[i].1] by rw [List.take_succ_eq_append_getElem hil, HLE.out])
          clear hm3 hE3 hg3 hs3 hbk e0 e1 c0 c1
          go_wp2_with fail
          refine HKV2.out.mono ?_
          rintro e w4 ⟨rfl, hE4⟩
          have HM4 := Lib.hid (HM3.out.ext hE4)
          have HE4 := Lib.hid (HE3.out.trans hE4)
          clear hE4 d1
          go_wp2_with fail
          go_roundg (gk - 1)
          case measure => have := HM.out; omega
          case rel => exact ⟨i + 1, by have := HM.out; omega, by go_num, HE4.out, by rw [HTI.out]; exact HM4.out, HND2.out⟩
      · have hnd : (l.map (·.1)).Nodup := by
          have := HND.out
          rw [List.take_of_length_le (by simp; omega)] at this
          exact this
        have HNO := Lib.hid hnd
        have HEX := Lib.hid hE
        have hiI : ¬ (i : Int) < (l.length : Int) := by omega
        obtain rfl : res = 0 := by rw [HR2.out, if_pos HNO.out]
        clear hM hE hnd
        go_wp2
        go_ret
        exact ⟨rfl, HEX.out⟩

end Go.Proofs.YtcmbehpilldlpaaDoor
