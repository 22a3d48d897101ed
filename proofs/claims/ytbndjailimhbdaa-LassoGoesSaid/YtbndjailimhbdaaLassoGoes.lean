/- The law LassoGoes. -/
import Derived.Test.YtbndjailimhbdaaLasA
import Derived.Test.YtbndjailimhbdaaLassoP
import Derived.Test.YtbndjailimhbdaaGraph2
import Derived.Test.YtbndjailimhbdaaHasS
import Derived.Test.YtbndjailimhbdaaStep
import Derived.Deep.RegionLaw
import Derived.Deep.DeepCutAuto
namespace Go.Proofs.Ytbndjailimhbdaa
open Go.RowKit

set_option maxRecDepth 100000 in
set_option maxHeartbeats 4000000 in
theorem leads_yes (sp nx st : Value) (init M : Int) (next : List (List Int)) (a b : Nat) (w : World) (hN : Lists w nx next) (he : Edge next a b) :
    Calls Try.prog 7 #[.agg #[sp, .int .i64 init, nx, st, .int .i64 M], .int .i64 (a : Int), .int .i64 (b : Int)] w fun e w' => e = .returned (.bool true) ∧ Ext w w' := by
  obtain ⟨l, hl, hb⟩ := he
  obtain ⟨ha, hla⟩ := List.getElem?_eq_some_iff.1 hl
  have HN := Lib.hid hN
  obtain ⟨ax, cx, rfl⟩ : ∃ a c, nx = .slice a next.length c := by
    obtain ⟨vs, he, a, c, rfl, _⟩ := hN
    exact ⟨a, c, rfl⟩
  obtain ⟨-, hcl, hclm, bL, oL, l1, l2⟩ := hN.cells
  obtain rfl := l1 (by omega)
  obtain ⟨aL, cL, cz, hil⟩ := l2 a ha
  rw [hla] at cz hil
  have hx := ext_al (Ext.refl w) (Obj.cells #[sp, .int .i64 init, .slice (some ⟨bL, oL, none⟩) next.length cx, st, .int .i64 M] 28)
  have HX := Lib.hid hx
  have HB := Lib.hid (blk_new w (Obj.cells #[sp, .int .i64 init, .slice (some ⟨bL, oL, none⟩) next.length cx, st, .int .i64 M] 28))
  have z2 := blk_cell HB.out (i := 2) rfl
  replace cz := (World.cell?_of_block (hx.block bL (World.block_lt_of_cell? _ _ cz))).trans cz
  have HH := Lib.hid fun wx (hE : Ext w wx) => has_yes (.slice aL l.length cL) l (b : Int) wx (hil.ext hE) hb
  have haI : (a : Int) < (next.length : Int) := by omega
  have ha0 : (0 : Int) ≤ (a : Int) := by omega
  unfold maxLen at hclm
  clear hN l2 hil hx hl hla hb
  go_enter Try.func7, Try.ntmps7
  go_wp2_with fail
  generalize w.alloc (Obj.cells #[sp, .int .i64 init, .slice (some ⟨bL, oL, none⟩) next.length cx, st, .int .i64 M] 28) = W0 at *
  refine (HH.out _ HX.out).mono ?_
  rintro e w' ⟨rfl, rfl⟩
  go_wp2
  go_ret
  exact ⟨rfl, HX.out⟩



set_option maxRecDepth 100000 in
set_option maxHeartbeats 8000000 in
theorem lassoGoes_walk (vn vs : Value) (ll : List (List Int)) (sets : List Int) (init many : Int) (w : World) (hN : Lists w vn ll) (hS : Ints w vs sets) (hI : ∀ l ∈ ll, ∀ n ∈ l, I64 n) (hT : ∀ n ∈ sets, I64 n) (h1 : I64 init) (h2 : I64 many) :
    Calls Try.prog 3 #[.agg #[vn, vs, .int .i64 init, .int .i64 many]] w fun e w' => e = .returned (.bool true) ∧ Ext w w' := by
  obtain ⟨n, next, bits, spots, ini, M, hn20, hM3, hsl, hok, _, _, hg⟩ := graph_two vn vs ll sets init many w hN hS hI hT h1 h2
  obtain ⟨an, cn, rfl⟩ : ∃ a c, vn = .slice a ll.length c := by
    obtain ⟨vs, he, a, c, rfl, _⟩ := hN
    exact ⟨a, c, rfl⟩
  obtain ⟨asv, cs, rfl, _⟩ := hS
  have HG := Lib.hid hg
  have HOK := Lib.hid hok
  have HSL := Lib.hid hsl
  have hin := hok.i1
  clear hN hI hT h1 h2 hok hsl hg
  go_enter Try.func3, Try.ntmps3
  have HA := Lib.hid (ext_al (Ext.refl w) (Obj.cells #[.slice an ll.length cn, .slice asv sets.length cs, .int .i64 init, .int .i64 many] 25))
  go_wp2_with fail
  generalize w.alloc (Obj.cells #[.slice an ll.length cn, .slice asv sets.length cs, .int .i64 init, .int .i64 many] 25) = W1 at *
  refine (HG.out _ HA.out).mono ?_
  rintro e w1 ⟨τ, asp, ax, at', csp, cx, ct, rfl, hm, hE1⟩
  have HSP := Lib.hid hm.spots
  have HLI := Lib.hid hm.lists
  have HIN := Lib.hid hm.ints
  have hx1 := ext_al (Ext.refl w1) (Obj.cells #[.slice asp n csp, .int .i64 (ini : Int), .slice ax n cx, .slice at' n ct, .int .i64 (M : Int)] 28)
  have HX1 := Lib.hid hx1
  have BG := Lib.hid (blk_new w1 (Obj.cells #[.slice asp n csp, .int .i64 (ini : Int), .slice ax n cx, .slice at' n ct, .int .i64 (M : Int)] 28))
  have HEA := Lib.hid (HA.out.trans (hE1.trans hx1))
  have HFA := Lib.hid fun wx (hx : Ext w1 wx) => fairR_any (.slice asp n csp) (.slice ax n cx) (.slice at' n ct) ini M spots next bits wx (hm.spots.ext hx) (hm.lists.ext hx) (hm.ints.ext hx) (by rw [HSL.out]; exact HOK.out)
  have HLA := Lib.hid fun wx (hx : Ext w1 wx) => lasso_any (.slice asp n csp) (.slice ax n cx) (.slice at' n ct) ini M spots next bits wx (hm.spots.ext hx) (hm.lists.ext hx) (hm.ints.ext hx) (by rw [HSL.out]; exact HOK.out)
  rw [HSL.out] at HFA HLA
  have d0 := blk_cell BG.out (i := 0) rfl
  have d1 := blk_cell BG.out (i := 1) rfl
  have d2 := blk_cell BG.out (i := 2) rfl
  have d3 := blk_cell BG.out (i := 3) rfl
  have d4 := blk_cell BG.out (i := 4) rfl
  clear hm hE1 hx1 HG
  go_wp2_with fail
  refine (HLA.out _ HX1.out).mono ?_
  generalize hW2 : w1.alloc (Obj.cells #[.slice asp n csp, .int .i64 (ini : Int), .slice ax n cx, .slice at' n ct, .int .i64 (M : Int)] 28) = W2 at *
  clear hW2 d0 d1 d2 d3 d4
  rintro e w3 ⟨⟨st, lp, a1, c1, a2, c2, rfl, hr1, hr2, hlo, hlt, hlen, hfm⟩ | ⟨rfl, hno⟩, hE3⟩
  · have hx3 := ext_al (Ext.refl w3) (Obj.cells #[.slice a1 st.length c1, .slice a2 lp.length c2] 31)
    have BL := Lib.hid (blk_new w3 (Obj.cells #[.slice a1 st.length c1, .slice a2 lp.length c2] 31))
    have HX3 := Lib.hid (hE3.trans hx3)
    have HR1 := Lib.hid (show Reads (w3.alloc (Obj.cells #[.slice a1 st.length c1, .slice a2 lp.length c2] 31)) 1 (.slice a1 st.length c1) st.length (natV st) from by obtain ⟨_, _, e, h⟩ := hr1; exact ⟨_, _, e, h.ext hx3⟩)
    have HR2 := Lib.hid (show Reads (w3.alloc (Obj.cells #[.slice a1 st.length c1, .slice a2 lp.length c2] 31)) 1 (.slice a2 lp.length c2) lp.length (natV lp) from by obtain ⟨_, _, e, h⟩ := hr2; exact ⟨_, _, e, h.ext hx3⟩)
    have HLO := Lib.hid hlo
    have HLT := Lib.hid hlt
    have HFM := Lib.hid hfm
    obtain ⟨hl1, hl2⟩ := hlen
    have hg3 := blk_ext BG.out HX3.out
    have d0 := blk_cell hg3 (i := 0) rfl
    have d1 := blk_cell hg3 (i := 1) rfl
    have d2 := blk_cell hg3 (i := 2) rfl
    have d3 := blk_cell hg3 (i := 3) rfl
    have d4 := blk_cell hg3 (i := 4) rfl
    clear hr1 hr2 hlo hlt hfm hE3 hx3 hg3
    go_wp2_with fail
    generalize w3.alloc (Obj.cells #[.slice a1 st.length c1, .slice a2 lp.length c2] 31) = W3 at *
    refine (HFA.out _ (HX1.out.trans HX3.out)).mono ?_
    rintro e w4 ⟨⟨m, rfl, -, -⟩ | ⟨rfl, hno⟩, hE4⟩
    · obtain ⟨s0, hl0, hs0, hfirst, hsteps⟩ := HLO.out.steps
      have hlen : (st ++ lp).length = st.length + lp.length := List.length_append
      have HST := Lib.hid hsteps
      have HLEN := Lib.hid hlen
      have HE4 := Lib.hid hE4
      have hbl := blk_ext BL.out hE4
      have r0 := blk_cell hbl (i := 0) rfl
      have r1 := blk_cell hbl (i := 1) rfl
      have hg4 := blk_ext BG.out (HX3.out.trans hE4)
      have d0 := blk_cell hg4 (i := 0) rfl
      have d1 := blk_cell hg4 (i := 1) rfl
      have d2 := blk_cell hg4 (i := 2) rfl
      have d3 := blk_cell hg4 (i := 3) rfl
      have d4 := blk_cell hg4 (i := 4) rfl
      obtain ⟨_, _, e1, hw1⟩ := id HR1.out
      simp only [Value.slice.injEq] at e1
      obtain ⟨rfl, -, rfl⟩ := e1
      obtain ⟨_, _, e2, hw2⟩ := id HR2.out
      simp only [Value.slice.injEq] at e2
      obtain ⟨rfl, -, rfl⟩ := e2
      have HW1 := Lib.hid (hw1.ext hE4)
      have HW2 := Lib.hid (hw2.ext hE4)
      have HX4 := Lib.hid (HEA.out.trans (HX3.out.trans hE4))
      have hl0I : ((lp.length : Int) == 0) = false := by
        rw [beq_eq_false_iff_ne]; omega
      have HF0 := Lib.hid hfirst
      clear hsteps hlen hE4 hbl hg4 hw1 hw2 HLA HFA hfirst
      go_upto_region 6 with fail
      have HLC := Lib.hid fun wx (hx : Ext w4 wx) => And.intro (blk_cell (blk_ext (blk_ext BL.out HE4.out) hx) (i := 0) rfl) (blk_cell (blk_ext (blk_ext BL.out HE4.out) hx) (i := 1) rfl)
      obtain ⟨N, hN⟩ : ∃ N, st.length + lp.length = N := ⟨_, rfl⟩
      have HNN := Lib.hid hN
      clear hN
      go_cut [8] (fun s8 wx => ∃ (a8 : Option Addr) (c8 : Nat), s8 = .slice a8 N c8 ∧ Ext w4 wx ∧ Row wx 1 a8 N c8 (natV (st ++ lp)))
      case first =>
        go_region_law (first
          | ((refine step_append rfl rfl Try.slIntsG w4.heap.size (by rfl) (own_ext HO5.out (by first | exact Ext.refl _ | exact ext_al (Ext.refl _) _)) (by rfl) (HW2.out.ext HE5.out) (natV_one _) (by unfold maxLen; omega) (by omega) (Below.size HE5.out) ?_
              intro v6 w6 hown6 hg6 hb6 _
              have hE6 : Ext w4 w6 := Below.grown HE5.out hg6 (Below.size HE5.out) (fun b hb => (HO5.out.lt b hb).1)
              have HE6 := Lib.hid hE6
              obtain ⟨a6, c6, rfl, hrow6⟩ := hown6.row
              have HO6 := Lib.hid hrow6
              clear hown6 hg6 hb6 hE6 hrow6))
          | ((refine step_append rfl rfl Try.slIntsG w4.heap.size (by rfl) (World.ownsRow_nil _ _ _ _) (by rfl) (HW1.out.ext (by exact Below.drew (Ext.refl _))) (natV_one _) (by unfold maxLen; omega) (by omega) (Below.size (show Ext w4 _ by exact Below.drew (Ext.refl _))) ?_
              intro v5 w5 hown5 hg5 hb5 _
              simp only [Nat.zero_add, List.nil_append] at hown5
              have hx5 := (Ext.refl _).grown hg5 (Nat.le_refl _) (by simp [Value.ownBlock])
              have hE5 : Ext w4 w5 := Ext.trans (Below.drew (Ext.refl _)) hx5
              have HE5 := Lib.hid hE5
              obtain ⟨a5, c5, rfl, _⟩ := hown5.row
              have HO5 := Lib.hid hown5
              have hc5 := HLC.out w5 hE5
              obtain ⟨cL0, cL1⟩ := hc5
              clear hown5 hg5 hb5 hx5 hE5)))
        all_goals
          go_wp2_with fail
          go_meet
          exact ⟨a6, c6, by rw [HNN.out], HE6.out, by rw [show natV (st ++ lp) = natV st ++ natV lp by simp [natV], ← HNN.out]; exact HO6.out⟩
      case rest =>
      obtain ⟨a8, c8, rfl, hE8, hrow⟩ := hcut
      have HE8 := Lib.hid hE8
      have HRW := Lib.hid hrow
      obtain ⟨b8, o8, i1, i2⟩ := row_cells (f := fun x : Nat => Value.int .i64 (x : Int)) hrow
      obtain rfl := i1 (by have := HLEN.out; omega)
      have hc8 := hrow.le
      have hf2 := List.getElem?_eq_some_iff.1 HF0.out
      obtain ⟨hf3, hf4⟩ := hf2
      have c0 := i2 0 hf3
      rw [hf4, Nat.add_zero] at c0
      obtain ⟨cL0, cL1⟩ := HLC.out wc hE8
      have hg8 := blk_ext BG.out (HX3.out.trans (HE4.out.trans hE8))
      have d0 := blk_cell hg8 (i := 0) rfl
      have d1 := blk_cell hg8 (i := 1) rfl
      have d2 := blk_cell hg8 (i := 2) rfl
      have d3 := blk_cell hg8 (i := 3) rfl
      have d4 := blk_cell hg8 (i := 4) rfl
      have hs0I : (s0 : Int) < (ini : Int) := by omega
      have hs00 : (0 : Int) ≤ (s0 : Int) := by omega
      have hsd1 : decide ((s0 : Int) < 0) = false := decide_eq_false (by omega)
      have hsd2 : decide (ini ≤ s0) = false := decide_eq_false (by omega)
      have hp0 : 0 < N := by have := HNN.out; omega
      have hp1 : (0 : Int) < (N : Int) := by omega
      unfold maxLen at *
      go_wp2_with fail
      go_quiet (fail)
      have hED : Ext wc (wc.drewN nq) := below_drewN (Ext.refl _) _
      have HE9 := Lib.hid (HE8.out.trans hED)
      have HR9 := Lib.hid (hrow.ext hED)
      have HLC9 := Lib.hid fun wx (hx : Ext (wc.drewN nq) wx) => HLC.out wx (HE8.out.trans (hED.trans hx))
      have HG9 := Lib.hid (blk_ext BG.out (HX3.out.trans (HE4.out.trans (HE8.out.trans hED))))
      have HW29 := Lib.hid (HW2.out.ext (HE8.out.trans hED))
      have HF9 := Lib.hid (HX4.out.trans (HE8.out.trans hED))
      have HL9 := Lib.hid (HLI.out.ext (HX1.out.trans (HX3.out.trans (HE4.out.trans (HE8.out.trans hED)))))
      have HI9 := Lib.hid (HIN.out.ext (HX1.out.trans (HX3.out.trans (HE4.out.trans (HE8.out.trans hED)))))
      have HCL := Lib.hid fun (i : Nat) (hi : i < (st ++ lp).length) wx (hx : Ext (wc.drewN nq) wx) => (World.cell?_of_block ((hED.trans hx).block b8 (World.block_lt_of_cell? _ _ (i2 i hi)))).trans (i2 i hi)
      clear d0 d1 d2 d3 d4 cL0 cL1 c0 i2 hf3 hf4 hrow hE8 hg8 hED HW2 HW1
      generalize wc.drewN nq = W9 at *
      have HBL := Lib.hid (bitsN_lt HOK.out.bits)
      have HOS := Lib.hid (show ((orL (bitsN bits) (lp.take (0 - st.length)) : Nat) : Int) = 0 by rw [Nat.zero_sub, List.take_zero]; rfl)
      go_wp2_with fail
      go_loopg [9, 10] N (fun g x y wr => ∃ i : Nat, g + i = N ∧ y = .int .i64 (i : Int) ∧ x = .int .i64 ((orL (bitsN bits) (lp.take (i - st.length)) : Nat) : Int) ∧ Ext W9 wr)
      case atStart => exact ⟨0, by omega, by go_num, by rw [HOS.out], Ext.refl _⟩
      case round =>
        obtain ⟨i, hgi, rfl, rfl, hE⟩ := hrel
        have HGI := Lib.hid hgi
        have HEI := Lib.hid hE
        have hgr := blk_ext HG9.out hE
        have d0 := blk_cell hgr (i := 0) rfl
        have d1 := blk_cell hgr (i := 1) rfl
        have d2 := blk_cell hgr (i := 2) rfl
        have d3 := blk_cell hgr (i := 3) rfl
        have d4 := blk_cell hgr (i := 4) rfl
        obtain ⟨cL0, cL1⟩ := HLC9.out wr hE
        clear hgi hE hgr
        by_cases hi : i < N
        · have hi' : i < (st ++ lp).length := by have := HLEN.out; have := HNN.out; omega
          have ci := HCL.out i hi' wr HEI.out
          have HED := Lib.hid (HST.out i hi')
          have hqn := HLT.out (st ++ lp)[i] (by simp)
          obtain ⟨j1, j2, j3, j4⟩ := row_cells (f := fun x : Nat => Value.int .i64 (x : Int)) HW29.out
          obtain rfl := j3 hl0
          have cz := j4 0 hl0
          rw [Nat.add_zero] at cz
          replace cz := (World.cell?_of_block (HEI.out.block j1 (World.block_lt_of_cell? _ _ cz))).trans cz
          have hlc := HW29.out.le
          have HOT := Lib.hid fun hs => orL_take (bits := bitsN bits) hi' hs
          obtain ⟨q, hq⟩ : ∃ q, (st ++ lp)[i] = q := ⟨_, rfl⟩
          obtain ⟨z, hz⟩ : ∃ z, lp[0] = z := ⟨_, rfl⟩
          rw [hq] at ci HED hqn HOT
          rw [hz] at cz HED
          have hiI : (i : Int) < (N : Int) := by omega
          have hi0 : (0 : Int) ≤ (i : Int) := by omega
          have HQ := Lib.hid hq
          clear j4 hq hz
          have hNb : N ≤ 220000 := by have := HNN.out; omega
          rcases Nat.lt_or_ge (i + 1) N with hl | hl
          case' inl =>
            have hl2 : i + 1 < (st ++ lp).length := by have := HLEN.out; have := HNN.out; omega
            have cn := HCL.out (i + 1) hl2 wr HEI.out
            rw [dif_pos hl2] at HED
            obtain ⟨tz, hto⟩ : ∃ tz, (st ++ lp)[i + 1] = tz := ⟨_, rfl⟩
            rw [hto] at cn HED
            have hi1I : (i : Int) + 1 < (N : Int) := by omega
            have hi10 : (0 : Int) ≤ (i : Int) + 1 := by omega
            clear hto hl2
          case' inr =>
            have hl2 : ¬ i + 1 < (st ++ lp).length := by have := HLEN.out; have := HNN.out; omega
            rw [dif_neg hl2] at HED
            have hi1I : ¬ (i : Int) + 1 < (N : Int) := by omega
            obtain ⟨tz, rfl⟩ : ∃ tz, tz = z := ⟨_, rfl⟩
            clear hl2
          all_goals
            have HLD := Lib.hid fun wx (hx : Ext W9 wx) => leads_yes (.slice asp n csp) (.slice ax n cx) (.slice at' n ct) (ini : Int) (M : Int) next q tz wx (HL9.out.ext hx) HED.out
            go_upto_region 16 with fail
          all_goals
            go_region_law (go_simp
                           go_at_call 7
                           refine (HLD.out _ (HEI.out.trans (Below.drew (Ext.refl _)))).mono ?_
                           rintro e w6 ⟨rfl, hE6⟩
                           have HE6 := Lib.hid (Ext.trans (Below.drew (Ext.refl wr)) hE6)
                           have cl6 := HLC9.out w6 (HEI.out.trans HE6.out)
                           obtain ⟨cM0, cM1⟩ := cl6
                           have hg6 := blk_ext HG9.out (HEI.out.trans HE6.out)
                           have e3 := blk_cell hg6 (i := 3) rfl
                           have cs6 := HCL.out i hi' w6 (HEI.out.trans HE6.out)
                           rw [HQ.out] at cs6
                           clear hE6 hg6)
          all_goals
            by_cases hs : st.length ≤ i
            · have hsI : (st.length : Int) ≤ (i : Int) := by omega
              have HOR := Lib.hid (HOT.out hs)
              obtain ⟨_, _, es, hrs⟩ := id HI9.out
              simp only [Value.slice.injEq] at es
              obtain ⟨rfl, -, rfl⟩ := es
              obtain ⟨sb, so, t1, t2⟩ := ints_cells hrs
              have hqb : q < bits.length := by have := HOK.out.st; omega
              obtain rfl := t1 (by omega)
              have cb := t2 q hqb
              rw [bitsN_eq HOK.out.bits hqb] at cb
              replace cb := cell_later (HEI.out.trans HE6.out) cb
              have hbl := HBL.out q
              have hol := orL_lt HBL.out (lp.take (i - st.length))
              have hp64 : 2 ^ M ≤ 2 ^ 6 := Nat.pow_le_pow_right (by omega) HOK.out.m6
              generalize bitsN bits q = vx at *
              obtain ⟨mc, hmc⟩ : ∃ x, orL (bitsN bits) (lp.take (i - st.length)) = x := ⟨_, rfl⟩
              rw [hmc] at hol HOR ⊢
              have hor := i64_or_nat mc vx (by omega) (by omega)
              have hqI : (q : Int) < (n : Int) := by omega
              have hq0 : (0 : Int) ≤ (q : Int) := by omega
              have hsm := hrs.max
              have hsc := hrs.le
              unfold maxLen at hsm
              clear t2 hrs hqb hbl hol hp64 hmc
              go_wp2_with fail
              go_quiet (fail)
              obtain ⟨q0, rfl⟩ : ∃ q0 : Nat, q0 = nq := ⟨_, rfl⟩
              have HEX := Lib.hid (HEI.out.trans (HE6.out.trans (below_drewN (Ext.refl w6) q0)))
              go_wp2_with fail
              go_roundg (gk - 1)
              case measure => have := HGI.out; omega
              case rel => exact ⟨i + 1, by have := HGI.out; omega, by go_num, by rw [HOR.out], HEX.out⟩
            · have hsI : ¬ (st.length : Int) ≤ (i : Int) := by omega
              have HOR := Lib.hid (show orL (bitsN bits) (lp.take (i + 1 - st.length)) = orL (bitsN bits) (lp.take (i - st.length)) from by rw [show i + 1 - st.length = 0 by omega, show i - st.length = 0 by omega])
              go_wp2_with fail
              go_roundg (gk - 1)
              case measure => have := HGI.out; omega
              case rel => exact ⟨i + 1, by have := HGI.out; omega, by go_num, by rw [HOR.out], HEI.out.trans HE6.out⟩
        · obtain rfl : N = i := by have := HGI.out; omega
          have hiI : ¬ (N : Int) < (N : Int) := by omega
          have hmz : orL (bitsN bits) (lp.take (N - st.length)) = 2 ^ M - 1 := by
            rw [show N - st.length = lp.length by have := HNN.out; omega, List.take_length]
            exact HLO.out.met HBL.out
          rw [hmz]
          obtain ⟨PM, hPM⟩ : ∃ PM, (2 : Int) ^ M = PM := ⟨_, rfl⟩
          have hw0 : IntKind.i64.wrap ((2 : Int) ^ M) = PM := (wrap_pow HOK.out.m6).trans hPM
          have hPMn : ((2 ^ M : Nat) : Int) = PM := by rw [← hPM]; push_cast; rfl
          have hp64 : 2 ^ M ≤ 2 ^ 6 := Nat.pow_le_pow_right (by omega) HOK.out.m6
          have hp01 := Nat.two_pow_pos M
          have hm6 := HOK.out.m6
          rw [show ((2 ^ M - 1 : Nat) : Int) = PM - 1 by omega]
          have hPM1 : 1 ≤ PM := by omega
          have hPM2 : PM ≤ 64 := by omega
          have hM0 : (0 : Int) ≤ (M : Int) := by omega
          clear hmz hPM hPMn hp64 hp01
          go_wp2
          go_ret
          exact ⟨rfl, HF9.out.trans HEI.out⟩
    · obtain ⟨m, hm⟩ := HFM.out
      exact (hno m hm).elim
  · have hx3 := ext_al (Ext.refl w3) (Obj.cells #[.slice none 0 0, .slice none 0 0] 31)
    have BL := Lib.hid (blk_new w3 (Obj.cells #[.slice none 0 0, .slice none 0 0] 31))
    have HX3 := Lib.hid (hE3.trans hx3)
    have HNO := Lib.hid hno
    have hg3 := blk_ext BG.out HX3.out
    have d0 := blk_cell hg3 (i := 0) rfl
    have d1 := blk_cell hg3 (i := 1) rfl
    have d2 := blk_cell hg3 (i := 2) rfl
    have d3 := blk_cell hg3 (i := 3) rfl
    have d4 := blk_cell hg3 (i := 4) rfl
    clear hno hE3 hx3 hg3
    go_wp2_with fail
    generalize w3.alloc (Obj.cells #[.slice none 0 0, .slice none 0 0] 31) = W3 at *
    refine (HFA.out _ (HX1.out.trans HX3.out)).mono ?_
    rintro e w4 ⟨⟨m, rfl, hF, -⟩ | ⟨rfl, -⟩, hE4⟩
    · exact (HNO.out m hF).elim
    · have r1 := blk_cell (blk_ext BL.out hE4) (i := 1) rfl
      have HE4 := Lib.hid (HEA.out.trans (HX3.out.trans hE4))
      clear hE4 d0 d1 d2 d3 d4
      go_wp2
      go_ret
      exact ⟨rfl, HE4.out⟩

theorem lassoGoes_law (cs : Array Value) (W : World) (h0 : Cells Try.prog W 25 cs.toList) :
    Calls Try.prog 3 #[.agg cs] W fun e w' => e = .returned (.bool true) ∧ Ext W w' := by
  obtain ⟨vn, vs, ll, sets, init, many, rfl, hN, hS, hI, hT, h1, h2⟩ := h0.wires
  exact lassoGoes_walk vn vs ll sets init many W hN hS hI hT h1 h2

end Go.Proofs.Ytbndjailimhbdaa
