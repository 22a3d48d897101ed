/- The walk of SheetBack: a task is read as it was shown. No condition. -/
import Derived.Test.YtfcaomejbcjfgaaGreatDoorKxShRf
import Derived.Test.YtfcaomejbcjfgaaGreatDoorKx20
import Derived.Test.YtfcaomejbcjfgaaGreatDoorKx25
import Derived.Test.YtfcaomejbcjfgaaGreatDoorKxShLd
import Derived.Test.YtfcaomejbcjfgaaGreatDoorKx10
import Derived.Test.YtfcaomejbcjfgaaGreatDoorKx24
import Derived.Deep.LoopGhost
import Derived.Test.YtfcaomejbcjfgaaGreatDoorKx6
namespace Go.Proofs.YtfcaomejbcjfgaaGreatDoor
open Go Go.RowKit
theorem dn7s {w : World} {g : Nat} {a b c d e f k : Value} {T : TypeId} (h : w.heap[g]? = some (.cells #[a, b, c, d, e, f, k] T (0, 0))) :
    w.cell? ⟨g, 0, none⟩ = some a ∧ w.cell? ⟨g, 1, none⟩ = some b ∧ w.cell? ⟨g, 2, none⟩ = some c ∧ w.cell? ⟨g, 3, none⟩ = some d ∧ w.cell? ⟨g, 4, none⟩ = some e ∧ w.cell? ⟨g, 5, none⟩ = some f ∧ w.cell? ⟨g, 6, none⟩ = some k :=
  ⟨blk_cell h rfl, blk_cell h rfl, blk_cell h rfl, blk_cell h rfl, blk_cell h rfl, blk_cell h rfl, blk_cell h rfl⟩
theorem sb_step {P : Program} {ops : Array Oper} {w : World} {Q : Act → Prop} {a : Act} {o : Oper} {rest : List Oper}
    (h : ∀ K : Act → Prop, (∀ a, Shut (wpStill P ops w Q rest a) → K a) → if Region.wanted o (yielded ops a.tmps) then o.still P a w K else K (a.put o.dst undef)) : Shut (wpStill P ops w Q (o :: rest) a) :=
  ⟨wpStill_step fun K hK => h K fun a ha => hK a ha.out⟩
theorem sb_nil {P : Program} {ops : Array Oper} {w : World} {Q : Act → Prop} {a : Act} (h : Q a) : Shut (wpStill P ops w Q [] a) := ⟨wpStill_nil h⟩
theorem read_shown (t : Rt) (s : ByteArray) (w : World) (hg : Gl w) (ht : TaskG t) (hs : s = ⟨(showL t).toArray⟩) (hl : (showL t).length ≤ 9000) :
    Calls Tryz.prog 6 #[.string s] w fun e w' => Ext w w' ∧ ∃ vv rv pv fv, IsRt w' vv rv pv fv t ∧ e = .returned (.tuple #[.agg #[vv, rv, pv, fv], .int .i64 0]) := by
  subst hs
  refine (read_any _ w hg).mono ?_
  rintro e w' ⟨hE, h⟩
  have e1 : (⟨(showL t).toArray⟩ : ByteArray).data.toList = showL t := rfl
  unfold ReadE at h
  rw [e1, read_back ht] at h
  rcases h with ⟨h, _⟩ | ⟨_, h, _⟩ | ⟨_, _, _, vv, rv, pv, fv, hrt, rfl⟩
  · omega
  · exact absurd ⟨ht, rfl⟩ h
  · exact ⟨hE, vv, rv, pv, fv, hrt, rfl⟩
set_option maxRecDepth 100000 in
set_option maxHeartbeats 16000000 in
theorem sheetBack_law (cs : Array Value) (v1 : Value) (W : World) (hg : Gl W) (h0 : Cells Tryz.prog W 25 cs.toList) (h1 : Cells Tryz.prog W 26 [v1]) :
    Calls Tryz.prog 3 #[.agg cs, v1] W fun e w' => e = .returned (.bool true) ∧ Ext W w' := by
  obtain ⟨d, pv, rfl, hpl, hd⟩ := design_of h0
  obtain ⟨raw, hr, hR⟩ := raw_for h1
  have EE := ext_al (Ext.refl W) (Obj.cells (dnc d pv) 25)
  have HB := blk_new W (Obj.cells (dnc d pv) 25)
  have HTA := Lib.hid (task_any pv v1 d raw 4 _ (hpl.ext EE) hd (ops_ext hr EE) hR (by omega))
  have HK := Lib.hid (task_ok d raw 4 (by omega)).taskG
  have HL := Lib.hid ((dn_small d raw 4 (by omega)).len HK.out)
  have HG := Lib.hid (hg.ext EE)
  obtain ⟨ar0, cr0, rfl, _⟩ := id hr
  have HRT := Lib.hid fun (wx : World) (vv rv qv fv : Value) (h : IsTask wx vv rv qv fv d.md propT (forO raw 3 4)) => h.rt
  generalize rtOf d.md propT (forO raw 3 4) = t at *
  generalize forO raw 3 4 = fo at *
  simp only [dnc] at HTA HG EE HB ⊢
  generalize d.md = m at *
  generalize raw.length = nraw at *
  have cur := dn7s HB
  have HEE := Lib.hid EE
  have HNE := Lib.hid (show 0 < (showL t).length by
    rw [showL_eq, showLs, List.flatten_append, List.length_append, checkT_eq]
    simp only [List.flatten_cons, List.length_append, mkL, wCheck, List.length_cons]
    omega)
  clear hg hpl hd HB h0 h1 hr hR EE
  go_enter Tryz.func3, Tryz.ntmps3
  go_wp2_with fail
  generalize W.alloc (Obj.cells #[.int .i64 d.s0, .int .i64 d.s1, .int .i64 d.l0, .int .i64 d.l1, .int .i64 d.i0, .int .i64 d.i1, pv] 25) = W0 at *
  refine HTA.out.mono ?_
  rintro e w1 ⟨vv, rv, qv, fv, rfl, hT1, hE1⟩
  have hrt := HRT.out w1 _ _ _ _ hT1
  obtain ⟨a1, c1, a2, c2, a3, c3, a4, c4, rfl, rfl, rfl, rfl⟩ := hrt.val
  have HSH := Lib.hid fun wx (hx : Ext w1 wx) => show_any _ _ _ _ t wx (hrt.ext hx) ((HG.out.ext hE1).ext hx)
  have HE1 := Lib.hid (HEE.out.trans hE1)
  have HG1 := Lib.hid (HG.out.ext hE1)
  have HR1 := Lib.hid hrt
  have HN := Lib.hid (show t.vars.length = t.vars.length from rfl)
  clear hT1 hE1 hrt HTA HRT cur HN
  obtain ⟨n1, hn1⟩ : ∃ n, t.vars.length = n := ⟨_, rfl⟩
  obtain ⟨n2, hn2⟩ : ∃ n, t.rules.length = n := ⟨_, rfl⟩
  obtain ⟨n3, hn3⟩ : ∃ n, t.props.length = n := ⟨_, rfl⟩
  obtain ⟨n4, hn4⟩ : ∃ n, t.form.length = n := ⟨_, rfl⟩
  rw [hn1, hn2, hn3, hn4] at HSH HR1 ⊢
  have HN1 := Lib.hid hn1
  have HN2 := Lib.hid hn2
  have HN3 := Lib.hid hn3
  have HN4 := Lib.hid hn4
  clear hn1 hn2 hn3 hn4
  have HX1 := Lib.hid (ext_al (Ext.refl w1) (Obj.cells #[.slice a1 n1 c1, .slice a2 n2 c2, .slice a3 n3 c3, .slice a4 n4 c4] 34))
  have HT1 := Lib.hid (blk_new w1 (Obj.cells #[.slice a1 n1 c1, .slice a2 n2 c2, .slice a3 n3 c3, .slice a4 n4 c4] 34))
  go_wp2_with fail
  refine (HSH.out _ HX1.out).mono ?_
  rintro e w3 ⟨c, hc, hE3, rfl⟩
  obtain rfl : c = 0 := hc.2 HK.out
  rw [if_pos rfl]
  obtain ⟨sx, hsx⟩ : ∃ sx : ByteArray, sx = ⟨(showL t).toArray⟩ := ⟨_, rfl⟩
  rw [← hsx]
  have HRD := Lib.hid fun wx (hg : Gl wx) => read_shown t sx wx hg HK.out hsx HL.out
  have z1 : (0 : Int) < (sx.size : Int) := by
    have := HNE.out
    rw [hsx, ba_size]; omega
  have zz : (((sx.size : Nat) : Int) == 0) = false := by rw [beq_eq_false_iff_ne]; omega
  clear z1
  have HX3 := Lib.hid (HX1.out.trans hE3)
  have HG3 := Lib.hid (HG1.out.ext HX3.out)
  have HT3 := Lib.hid (blk_ext HT1.out hE3)
  clear hE3 hc hsx HSH HT1 HX1
  go_wp2_with fail
  refine (HRD.out _ HG3.out).mono ?_
  rintro e w4 ⟨hE4, vv, rv, qv, fv, hrt2, rfl⟩
  obtain ⟨b1, d1, b2, d2, b3, d3, b4, d4, rfl, rfl, rfl, rfl⟩ := hrt2.val
  rw [HN1.out, HN2.out, HN3.out, HN4.out] at hrt2 ⊢
  have HX4 := Lib.hid (HX3.out.trans hE4)
  have hx5 := ext_al (Ext.refl w4) (Obj.cells #[.slice b1 n1 d1, .slice b2 n2 d2, .slice b3 n3 d3, .slice b4 n4 d4] 34)
  have HR4 := Lib.hid (hrt2.ext hx5)
  have HT5 := Lib.hid (blk_new w4 (Obj.cells #[.slice b1 n1 d1, .slice b2 n2 d2, .slice b3 n3 d3, .slice b4 n4 d4] 34))
  have HS5 := Lib.hid (blk_ext (blk_ext HT3.out hE4) hx5)
  have HX5 := Lib.hid (HX4.out.trans hx5)
  have HR1b := Lib.hid (HR1.out.ext HX5.out)
  have HG5 := Lib.hid (HG1.out.ext HX5.out)
  clear hE4 hrt2 HT3 HG3 HRD HX4 HX3
  have j0 := blk_cell HS5.out (i := 0) rfl
  have j1 := blk_cell HS5.out (i := 1) rfl
  have j2 := blk_cell HS5.out (i := 2) rfl
  have j3 := blk_cell HS5.out (i := 3) rfl
  have HST := Lib.hid (sameTask_any _ _ _ _ _ _ _ _ t _ HR1b.out HR4.out HK.out HG5.out)
  clear hx5
  go_wp2_with fail
  refine HST.out.mono ?_
  rintro e w6 ⟨rfl, hE6⟩
  have HEF := Lib.hid ((HE1.out.trans HX5.out).trans hE6)
  have HTA := Lib.hid (blk_ext HS5.out hE6)
  have HTB := Lib.hid (blk_ext HT5.out hE6)
  have HRA := Lib.hid (HR1b.out.ext hE6)
  have HRB := Lib.hid (HR4.out.ext hE6)
  clear hE6 HST j0 j1 j2 j3 HS5 HT5 HR1b HR4 HX5 HG5 HR1 HG1 HE1 HG
  generalize w1.heap.size = Ta at *
  generalize w4.heap.size = Tb at *
  clear HEE HL HNE
  obtain ⟨_, _, hva, _, ba, oa, haa, hca⟩ := HRA.out.vars.at
  obtain ⟨_, _, hvb, _, bb, ob, hbb, hcb⟩ := HRB.out.vars.at
  obtain ⟨_, _, hra, _, bc, oc, hcc, hcr⟩ := HRA.out.rules.at
  obtain ⟨_, _, hrb, _, bd, od, hdd, hdr⟩ := HRB.out.rules.at
  simp only [Value.slice.injEq] at hva hvb hra hrb
  obtain ⟨rfl, -, -⟩ := hva
  obtain ⟨rfl, -, -⟩ := hvb
  obtain ⟨rfl, -, -⟩ := hra
  obtain ⟨rfl, -, -⟩ := hrb
  rw [HN1.out] at haa hbb
  rw [HN2.out] at hcc hdd
  have hn6 : n1 ≤ 6 := by have := HK.out.pr.md.vars.six; rw [HN1.out] at this; exact this
  have hn12 : n2 ≤ 12 := by have := HK.out.pr.md.twelve; rw [HN2.out] at this; exact this
  have HAA := Lib.hid haa
  have HBB := Lib.hid hbb
  have HCC := Lib.hid hcc
  have HDD := Lib.hid hdd
  have HCA := Lib.hid hca
  have HCB := Lib.hid hcb
  have HCR := Lib.hid hcr
  have HDR := Lib.hid hdr
  clear haa hbb hcc hdd hca hcb hcr hdr
  go_wp2_with fail
  
  go_loopg [10] n1 (fun m x wr => ∃ i : Nat, m + i = n1 ∧ x = .int .i64 (i : Int) ∧ Ext w6 wr)
  case atStart => exact ⟨0, by omega, by go_num, Ext.refl _⟩
  case round =>
    obtain ⟨i, hmi, rfl, hE⟩ := hrel
    have HMI := Lib.hid hmi
    have HE := Lib.hid hE
    have t0 := blk_cell (blk_ext HTA.out hE) (i := 0) rfl
    have u0 := blk_cell (blk_ext HTB.out hE) (i := 0) rfl
    have hi0 : (0 : Int) ≤ (i : Int) := by omega
    clear hmi
    by_cases hi : i < n1
    · have hi' : i < t.vars.length := by rw [HN1.out]; exact hi
      obtain ⟨x1, x2, x3, x4⟩ := HCA.out i hi'
      obtain ⟨y1, y2, y3, y4⟩ := HCB.out i hi'
      obtain rfl := HAA.out (by omega)
      obtain rfl := HBB.out (by omega)
      replace x1 := cell_later hE x1
      replace x2 := cell_later hE x2
      replace x3 := cell_later hE x3
      replace x4 := cell_later hE x4
      replace y1 := cell_later hE y1
      replace y2 := cell_later hE y2
      replace y3 := cell_later hE y3
      replace y4 := cell_later hE y4
      generalize t.vars[i].name = nm at *
      generalize t.vars[i].low = lo at *
      generalize t.vars[i].high = hh at *
      generalize t.vars[i].init = ini at *
      have hiI : (i : Int) < (n1 : Int) := by omega
      clear hE hi'
      go_wp2_with fail
      go_quiet (fail)
      go_wp2_with fail
      go_roundg (gk - 1)
      case measure => have := HMI.out; omega
      case rel => exact ⟨i + 1, by have := HMI.out; omega, by go_num, below_drewN HE.out _⟩
    · have hiI : ¬ (i : Int) < (n1 : Int) := by omega
      clear hE HMI hi
      obtain ⟨g0, rfl⟩ : ∃ g : Nat, g = gk := ⟨_, rfl⟩
      go_wp2_with fail
      clear hiI hi0 t0 u0
      obtain ⟨W1, hW1⟩ : ∃ W1 : World, W1 = wr := ⟨_, rfl⟩
      rw [← hW1] at HE ⊢
      clear hW1
      
      go_loopg [11] n2 (fun m x wr => ∃ i : Nat, m + i = n2 ∧ x = .int .i64 (i : Int) ∧ Ext w6 wr)
      case atStart => exact ⟨0, by omega, by go_num, HE.out⟩
      case round =>
        obtain ⟨i, hmi, rfl, hE⟩ := hrel
        have HMI := Lib.hid hmi
        have HE2 := Lib.hid hE
        have t0 := blk_cell (blk_ext HTA.out hE) (i := 1) rfl
        have u0 := blk_cell (blk_ext HTB.out hE) (i := 1) rfl
        have hi0 : (0 : Int) ≤ (i : Int) := by omega
        clear hmi
        by_cases hi : i < n2
        · have hi' : i < t.rules.length := by rw [HN2.out]; exact hi
          obtain ⟨g1, s1, x1, x2, hg1, hs1⟩ := HCR.out i hi'
          obtain ⟨g2, s2, y1, y2, hg2, hs2⟩ := HDR.out i hi'
          obtain rfl := HCC.out (by omega)
          obtain rfl := HDD.out (by omega)
          have hr6 := (HK.out.pr.md.rules _ (List.getElem_mem hi')).six
          generalize t.rules[i] = r at *
          replace x1 := cell_later hE x1
          replace x2 := cell_later hE x2
          replace y1 := cell_later hE y1
          replace y2 := cell_later hE y2
          have HSG := Lib.hid fun wx (hx : Ext w6 wx) => same_ops g1 g2 r.guard wx (hg1.ext hx) (hg2.ext hx)
          obtain ⟨as1, cs1, rfl, _, be, oe, hea, hec⟩ := hs1.at
          obtain ⟨as2, cs2, rfl, _, bf, of, hfa, hfc⟩ := hs2.at
          obtain ⟨ag1, cg1, rfl⟩ := hg1.val
          obtain ⟨ag2, cg2, rfl⟩ := hg2.val
          obtain ⟨ns, hns⟩ : ∃ n, r.sets.length = n := ⟨_, rfl⟩
          rw [hns] at hea hfa x2 y2
          have hs6 : ns ≤ 6 := by rw [← hns]; exact hr6
          generalize r.guard.length = ng at *
          have HNS := Lib.hid hns
          have HEA := Lib.hid hea
          have HFA := Lib.hid hfa
          have HEC := Lib.hid hec
          have HFC := Lib.hid hfc
          have hiI : (i : Int) < (n2 : Int) := by omega
          have hb1 := blk_new wr (Obj.cells #[.slice ag1 ng cg1, .slice as1 ns cs1] 46)
          have hb2 := blk_new (wr.alloc (Obj.cells #[.slice ag1 ng cg1, .slice as1 ns cs1] 46)) (Obj.cells #[.slice ag2 ng cg2, .slice as2 ns cs2] 46)
          rw [World.size_alloc] at hb2
          have hx1 := ext_al (Ext.refl wr) (Obj.cells #[.slice ag1 ng cg1, .slice as1 ns cs1] 46)
          have hx2 := ext_al (Ext.refl (wr.alloc (Obj.cells #[.slice ag1 ng cg1, .slice as1 ns cs1] 46))) (Obj.cells #[.slice ag2 ng cg2, .slice as2 ns cs2] 46)
          have HBA := Lib.hid (blk_ext hb1 hx2)
          have HBR := Lib.hid hb2
          have HEE := Lib.hid ((HE2.out.trans hx1).trans hx2)
          have u1 := cell_later hx1 u0
          have v1 := cell_later hx1 y1
          have v2 := cell_later hx1 y2
          clear hE hi' hns hea hfa hec hfc hg1 hg2 hs1 hs2 hb1 hb2 hx1 hx2
          go_wp2_with fail
          refine (HSG.out _ HEE.out).mono ?_
          rintro e w8 ⟨rfl, hE8⟩
          have m1 := blk_cell (blk_ext HBA.out hE8) (i := 1) rfl
          have m2 := blk_cell (blk_ext HBR.out hE8) (i := 1) rfl
          have HBA8 := Lib.hid (blk_ext HBA.out hE8)
          have HBR8 := Lib.hid (blk_ext HBR.out hE8)
          have HE8 := Lib.hid (HEE.out.trans hE8)
          clear hE8 HBA HBR HEE HSG x1 x2 y1 y2 t0 u0 u1 v1 v2
          go_wp2_with fail
          clear m1 m2
          obtain ⟨g1', rfl⟩ : ∃ g : Nat, g = gk := ⟨_, rfl⟩
          generalize wr.heap.size = Z at *
          obtain ⟨Zb, hZb⟩ : ∃ z, Z + 1 = z := ⟨_, rfl⟩
          rw [hZb] at HBR8 ⊢
          clear hZb HE2
          
          go_loopg [14] ns (fun m x wr => ∃ k : Nat, m + k = ns ∧ x = .int .i64 (k : Int) ∧ Ext w8 wr)
          case atStart => exact ⟨0, by omega, by go_num, Ext.refl _⟩
          case round =>
            obtain ⟨k, hmk, rfl, hE⟩ := hrel
            have HMK := Lib.hid hmk
            have HE9 := Lib.hid (HE8.out.trans hE)
            have HE9b := Lib.hid hE
            have m1 := blk_cell (blk_ext HBA8.out hE) (i := 1) rfl
            have m2 := blk_cell (blk_ext HBR8.out hE) (i := 1) rfl
            have hk0 : (0 : Int) ≤ (k : Int) := by omega
            clear hmk
            by_cases hk : k < ns
            · have hk' : k < r.sets.length := by rw [HNS.out]; exact hk
              obtain ⟨q1, x1, x2, ho1⟩ := HEC.out k hk'
              obtain ⟨q2, y1, y2, ho2⟩ := HFC.out k hk'
              obtain rfl := HEA.out (by omega)
              obtain rfl := HFA.out (by omega)
              replace x1 := cell_later HE9.out x1
              replace x2 := cell_later HE9.out x2
              replace y1 := cell_later HE9.out y1
              replace y2 := cell_later HE9.out y2
              have HSO := Lib.hid fun wx (hx : Ext w6 wx) => same_ops q1 q2 _ wx (ho1.ext hx) (ho2.ext hx)
              obtain ⟨aq1, cq1, rfl⟩ := ho1.val
              obtain ⟨aq2, cq2, rfl⟩ := ho2.val
              generalize (r.sets[k]).2.length = nq at *
              generalize (r.sets[k]).1 = va at *
              have hkI : (k : Int) < (ns : Int) := by omega
              clear hE hk' ho1 ho2
              go_upto_region 21 with fail
              have hd := Below.drew (Ext.refl wr)
              have HEX := Lib.hid hd
              replace x1 := cell_later hd x1
              replace x2 := cell_later hd x2
              replace y1 := cell_later hd y1
              replace y2 := cell_later hd y2
              replace m1 := cell_later hd m1
              replace m2 := cell_later hd m2
              clear hd
              refine region_tail 26 (by kernel_rfl) (by kernel_rfl) (Shut.out ?_)
              generalize wr.drew = Wd at *
              simp only [List.take_succ_cons, List.take_zero, List.drop_succ_cons, List.drop_zero]
              iterate 26 (refine sb_step (fun K hK => ?_); go_simp; refine hK _ ?_; clear hK K)
              refine sb_nil ?_
              go_wp2_with fail
              refine (HSO.out _ (HE9.out.trans HEX.out)).mono ?_
              rintro e w10 ⟨rfl, hE10⟩
              have HE10 := Lib.hid (Ext.trans HEX.out hE10)
              clear hE10
              go_wp2_with fail
              go_roundg (gk - 1)
              case measure => have := HMK.out; omega
              case rel => exact ⟨k + 1, by have := HMK.out; omega, by go_num, HE9b.out.trans HE10.out⟩
            · have hkI : ¬ (k : Int) < (ns : Int) := by omega
              clear hE hk
              go_wp2_with fail
              go_roundg (g1' - 1)
              case measure => have := HMI.out; omega
              case rel => exact ⟨i + 1, by have := HMI.out; omega, by go_num, HE9.out⟩
        · have hiI : ¬ (i : Int) < (n2 : Int) := by omega
          clear hE hi
          go_wp2
          go_ret
          exact ⟨rfl, HEF.out.trans HE2.out⟩
end Go.Proofs.YtfcaomejbcjfgaaGreatDoor
