/- The law FairMore. -/
import Derived.Test.YtknomfdeefakbaaFairAny
import Derived.Test.YtknomfdeefakbaaGrSet
import Derived.Test.YtknomfdeefakbaaStep
import Derived.Test.YtknomfdeefakbaaGraph2
import Derived.Deep.RegionLaw
namespace Go.Proofs.Ytknomfdeefakbaa
open Go.RowKit

theorem edge_set {L : List (List Int)} {x : Nat} (hx : x < L.length) (y : Int) {a b : Nat} (h : Edge L a b) : Edge (L.set x (L[x] ++ [y])) a b := by
  obtain ⟨l, h1, h2⟩ := h
  by_cases e : x = a
  · subst e
    rw [List.getElem?_eq_getElem hx] at h1
    injection h1 with h1
    refine ⟨L[x] ++ [y], by rw [List.getElem?_set]; simp [hx], ?_⟩
    rw [h1]; simp [h2]
  · exact ⟨l, by rw [List.getElem?_set, if_neg e]; exact h1, h2⟩

theorem gok_more {n M init : Nat} {next : List (List Int)} {sets : List Int} (h : GOk n next sets init M) {x : Nat} (hx : x < n) {y v : Int} (hy : 0 ≤ y ∧ y < n) (hv : 0 ≤ v ∧ v < (2 : Int) ^ M) :
    GOk n (next.set x (next[x]'(by have := h.nx; omega) ++ [y])) (sets.set x v) init M := by
  refine ⟨by rw [List.length_set]; exact h.nx, by rw [List.length_set]; exact h.st, h.max, h.i0, h.i1, h.m6, ?_, ?_⟩
  · intro l hl k hk
    rcases List.mem_or_eq_of_mem_set hl with hl | rfl
    · exact h.ins l hl k hk
    · rcases List.mem_append.1 hk with hk | hk
      · exact h.ins _ (by simp) k hk
      · simp only [List.mem_singleton] at hk; subst hk; exact hy
  · intro s hs
    rcases List.mem_or_eq_of_mem_set hs with hs | rfl
    · exact h.bits s hs
    · exact hv

theorem bits_set {sets : List Int} {x : Nat} (v : Nat) (hv : ∀ t, (bitsN sets x).testBit t = true → v.testBit t = true) (hx : x < sets.length) (i t : Nat) (h : (bitsN sets i).testBit t = true) : (bitsN (sets.set x (v : Int)) i).testBit t = true := by
  unfold bitsN at *
  by_cases e : i = x
  · subst e
    rw [List.getD, List.getElem?_set]
    simp only [if_true, hx]
    exact hv t h
  · rw [List.getD, List.getElem?_set, if_neg (Ne.symm e)]
    exact h

set_option maxRecDepth 100000 in
set_option maxHeartbeats 8000000 in
theorem fairMore_walk (vn vs : Value) (ll : List (List Int)) (sets : List Int) (init many : Int) (a b bt : Int) (w : World) (hN : Lists w vn ll) (hS : Ints w vs sets) (hI : ∀ l ∈ ll, ∀ n ∈ l, I64 n) (hT : ∀ n ∈ sets, I64 n) (h1 : I64 init) (h2 : I64 many) (ha : I64 a) (hb : I64 b) (hbt : I64 bt) :
    Calls Try.prog 5 #[.agg #[vn, vs, .int .i64 init, .int .i64 many], .int .i64 a, .int .i64 b, .int .i64 bt] w fun e w' => e = .returned (.bool true) ∧ Ext w w' := by
  obtain ⟨n, next, bits, spots, ini, M, hn20, hM3, hsl, hok, _, hl6, hg⟩ := graph_two vn vs ll sets init many w hN hS hI hT h1 h2
  obtain ⟨an, cn, rfl⟩ : ∃ a c, vn = .slice a ll.length c := by
    obtain ⟨vs, he, a, c, rfl, _⟩ := hN
    exact ⟨a, c, rfl⟩
  obtain ⟨asv, cs, rfl, _⟩ := hS
  unfold I64 at ha hb hbt
  have HG := Lib.hid hg
  have HOK := Lib.hid hok
  have HSL := Lib.hid hsl
  clear hN hI hT h1 h2 hok hsl hg
  go_enter Try.func5, Try.ntmps5
  have HA := Lib.hid (ext_al (Ext.refl w) (Obj.cells #[.slice an ll.length cn, .slice asv sets.length cs, .int .i64 init, .int .i64 many] 25))
  have BA := Lib.hid (blk_new w (Obj.cells #[.slice an ll.length cn, .slice asv sets.length cs, .int .i64 init, .int .i64 many] 25))
  go_wp2_with fail
  generalize w.alloc (Obj.cells #[.slice an ll.length cn, .slice asv sets.length cs, .int .i64 init, .int .i64 many] 25) = W1 at *
  refine (HG.out _ HA.out).mono ?_
  rintro e w1 ⟨τ, asp, ax, at', csp, cx, ct, rfl, hm, hE1⟩
  have HM := Lib.hid hm
  have HE1 := Lib.hid (HA.out.trans hE1)
  have BA1 := Lib.hid (blk_ext BA.out hE1)
  have hx1 := ext_al (Ext.refl w1) (Obj.cells #[.slice asp n csp, .int .i64 (ini : Int), .slice ax n cx, .slice at' n ct, .int .i64 (M : Int)] 28)
  have HX1 := Lib.hid hx1
  have hbG := blk_new w1 (Obj.cells #[.slice asp n csp, .int .i64 (ini : Int), .slice ax n cx, .slice at' n ct, .int .i64 (M : Int)] 28)
  have BG := Lib.hid hbG
  have HFA := Lib.hid fun wx (hx : Ext w1 wx) => fairR_any (.slice asp n csp) (.slice ax n cx) (.slice at' n ct) ini M spots next bits wx (hm.spots.ext hx) (hm.lists.ext hx) (hm.ints.ext hx) (by rw [HSL.out]; exact HOK.out)
  rw [HSL.out] at HFA
  have cA0 := blk_cell BA1.out (i := 0) rfl
  have cA1 := blk_cell BA1.out (i := 1) rfl
  have cA2 := blk_cell BA1.out (i := 2) rfl
  have cA3 := blk_cell BA1.out (i := 3) rfl
  have cA0' := cell_later hx1 cA0
  have cA1' := cell_later hx1 cA1
  have cA2' := cell_later hx1 cA2
  have cA3' := cell_later hx1 cA3
  clear hm hE1 BA HA hx1 hbG cA0 cA1 cA2 cA3
  by_cases h0 : n = 0
  · have h0I : ((n : Int) == 0) = true := by simp [h0]
    have H0 := Lib.hid h0
    clear h0
    go_wp2_with fail
    refine (HFA.out _ HX1.out).mono ?_
    rintro e w6 ⟨hc, hE6⟩
    obtain ⟨m, rfl, hm, _⟩ | ⟨rfl, _⟩ := hc
    · have := hm.1; have := H0.out; omega
    · have HE6 := Lib.hid ((HE1.out.trans HX1.out).trans hE6)
      clear hE6
      go_wp2
      go_ret
      exact ⟨rfl, HE6.out⟩
  · have h0I : ((n : Int) == 0) = false := by simp [h0]
    go_wp2_with fail
    refine (picked_any a n _ ha.1 ha.2 (by omega) (by omega)).mono ?_
    rintro e w3 ⟨rfl, rfl⟩
    obtain ⟨hx0, hx1⟩ := pk_bd a n (by omega)
    obtain ⟨x, hx⟩ : ∃ x : Nat, pk a n = (x : Int) := ⟨(pk a n).toNat, by omega⟩
    rw [hx] at hx0 hx1 ⊢
    clear hx
    have hxn : x < n := by omega
    go_wp2_with fail
    refine (HG.out _ (HE1.out.trans HX1.out)).mono ?_
    rintro e w2 ⟨τ2, asp2, ax2, at2, csp2, cx2, ct2, rfl, hm2, hE2⟩
    have hx2 := ext_al (Ext.refl w2) (Obj.cells #[.slice asp2 n csp2, .int .i64 (ini : Int), .slice ax2 n cx2, .slice at2 n ct2, .int .i64 (M : Int)] 28)
    have BH := Lib.hid (blk_new w2 (Obj.cells #[.slice asp2 n csp2, .int .i64 (ini : Int), .slice ax2 n cx2, .slice at2 n ct2, .int .i64 (M : Int)] 28))
    rw [show (w1.alloc (Obj.cells #[.slice asp n csp, .int .i64 (ini : Int), .slice ax n cx, .slice at' n ct, .int .i64 (M : Int)] 28)).heap.size = w1.heap.size + 1 by simp] at hm2
    obtain ⟨D, u, rfl, -, cD, fD, hu, hBD, hDW⟩ := hm2.nxAt (x := x) (by have := HOK.out.nx; omega)
    obtain ⟨D2, rfl, -, cD2, fD2, hBD2, hDW2⟩ := hm2.stAt (x := x) (by have := HOK.out.st; omega)
    replace fD := (hx2.frozen (p := ⟨D, x, none⟩) hDW).trans fD
    replace cD := cell_later hx2 cD
    replace hu := hu.ext hx2
    have HM2 := Lib.hid (hm2.ext hx2)
    have HX2 := Lib.hid (HX1.out.trans (hE2.trans hx2))
    have BG2 := Lib.hid (blk_ext BG.out (hE2.trans hx2))
    have hGH : w1.heap.size < w2.heap.size := by have := blk_lt BG.out; have := hE2.size; omega
    have hs1 : w1.heap.size + 1 ≤ w2.heap.size := hGH
    have HB := Lib.hid (show w.heap.size ≤ w1.heap.size from HE1.out.size)
    clear hm2 hE2 hx2 cA0' cA1' cA2' cA3' BG HG
    go_wp2_with fail
    generalize w2.alloc (Obj.cells #[.slice asp2 n csp2, .int .i64 (ini : Int), .slice (some ⟨D, 0, none⟩) n cx2, .slice (some ⟨D2, 0, none⟩) n ct2, .int .i64 (M : Int)] 28) = W0 at *
    obtain ⟨ar, cr, rfl, hru⟩ := hu
    have hxL : x < next.length := by have := HOK.out.nx; omega
    generalize hnl : next[x] = lx at *
    have HNL := Lib.hid hnl
    have hmx : lx.length ≤ 6 := hnl ▸ hl6 next[x] (by simp)
    have HRU := Lib.hid hru
    have HFD := Lib.hid fD
    have HCD := Lib.hid cD
    clear cD2 fD2
    have HHW := Lib.hid (blk_lt BH.out)
    generalize w2.heap.size = H at *
    generalize hGe : w1.heap.size = G at *
    have HGe := Lib.hid hGe
    clear hGe
    have hDG : D ≠ G := by omega
    have hDH : D ≠ H := by omega
    have HS : Hid (∀ w', Ext W0 w' → w'.cell? ⟨G, 0, none⟩ = some (.slice asp n csp) ∧ w'.cell? ⟨H, 2, none⟩ = some (.slice (some ⟨D, 0, none⟩) n cx2)) :=
      Lib.hid fun w' hE => ⟨blk_cell (blk_ext BG2.out hE) (i := 0) rfl, blk_cell (blk_ext BH.out hE) (i := 2) rfl⟩
    have hHPK := Lib.hid fun wx => picked_any b n wx hb.1 hb.2 (by omega) (by omega)
    obtain ⟨hp0, hp1⟩ := pk_bd b n (by omega)
    obtain ⟨pb, hpb⟩ : ∃ pb : Nat, pk b n = (pb : Int) := ⟨(pk b n).toNat, by omega⟩
    rw [hpb] at hp0 hp1 hHPK
    have hDW0 : D < W0.heap.size := by have := HHW.out; omega
    obtain ⟨cG0, cH2⟩ := HS.out W0 (Ext.refl _)
    clear fD hnl hru hpb
    go_cut [12] (fun s12 wx => s12 = .int .i64 (x : Int) ∧ ∃ w6 a6 c6, Ext W0 w6 ∧ w6.ownsRow W0.heap.size 3 1 (.slice a6 (lx.length + 1) c6) (lx.length + 1) ((lx ++ [(pb : Int)]).map (.int .i64)) ∧ wx = w6.setCell ⟨D, x, none⟩ (.slice a6 (lx.length + 1) c6))
    case first =>
      go_region_law (first
        | ((refine step_append rfl rfl Try.slInts W0.heap.size (by rfl) (own_ext HO5.out (by first | exact Ext.refl _ | exact ext_al (Ext.refl _) _)) (by rfl) (Row.oneAt _ _ _ _ rfl) (one_int _) (by unfold maxLen; omega) (by omega) (Below.size (show Ext W0 _ by first | exact HE5.out | exact ext_al HE5.out _)) ?_
            intro v6 w6 hown6 hg6 hb6 _
            have hE6 : Ext W0 w6 := Below.grown (by first | exact HE5.out | exact ext_al HE5.out _) hg6 (Below.size (show Ext W0 _ by first | exact HE5.out | exact ext_al HE5.out _)) (fun b hb => (HO5.out.lt b hb).1)
            have HE6 := Lib.hid hE6
            obtain ⟨a6, c6, rfl, _⟩ := hown6.row
            have HO6 := Lib.hid hown6
            have hc6 := HS.out w6 hE6
            obtain ⟨cG6, cH6⟩ := hc6
            have zD := cell_later hE6 HCD.out
            have zf : w6.frozen? ⟨D, x, none⟩ = false := (World.frozen?_of_block (hE6.block D hDW0)).trans HFD.out
            clear hown6 hg6 hb6 hE6))
        | ((refine step_append rfl rfl Try.slInts W0.heap.size (by rfl) (World.ownsRow_nil _ _ _ _) (by rfl) (HRU.out.ext (by exact Below.drew (Ext.refl _))) (ints_one _) (by unfold maxLen; omega) (by omega) (Below.size (show Ext W0 _ by exact Below.drew (Ext.refl _))) ?_
            intro v5 w5 hown5 hg5 hb5 _
            simp only [Nat.zero_add, List.nil_append] at hown5
            have hx5 := (Ext.refl _).grown hg5 (Nat.le_refl _) (by simp [Value.ownBlock])
            have hE5 : Ext W0 w5 := Ext.trans (Below.drew (Ext.refl _)) hx5
            have HE5 := Lib.hid hE5
            obtain ⟨a5, c5, rfl, _⟩ := hown5.row
            have HO5 := Lib.hid hown5
            have hc5 := HS.out w5 hE5
            obtain ⟨cG5, cH5⟩ := hc5
            have hc5a := HS.out _ (ext_al hE5 (Obj.cells #[.int .i64 (pb : Int)] 3))
            obtain ⟨cG5a, cH5a⟩ := hc5a
            clear hown5 hg5 hb5 hx5 hE5))
        | ((go_simp
            go_at_call 14
            refine (hHPK.out _).mono ?_
            rintro e wq ⟨rfl, rfl⟩)))
      all_goals
        go_wp2_with fail
        go_meet
        exact ⟨rfl, w6, a6, c6, HE6.out, by rw [List.map_append]; exact HO6.out, rfl⟩
    case rest =>
      obtain ⟨rfl, w6, a6, c6, hE6, hO6, rfl⟩ := hcut
      clear cG0 cH2
      have hm3 := (HM2.out.setNx hE6 (l6 := lx ++ [(pb : Int)]) (by rw [List.length_append]; exact hO6) x).1
      have HX3 := Lib.hid (ext_st (HX2.out.trans hE6) (p := ⟨D, x, none⟩) (by show w1.heap.size ≤ D; have := HGe.out; omega) (.slice a6 (lx.length + 1) c6))
      have bG3 := blk_far (blk_ext BG2.out hE6) (p := ⟨D, x, none⟩) hDG (.slice a6 (lx.length + 1) c6)
      have bH3 := blk_far (blk_ext BH.out hE6) (p := ⟨D, x, none⟩) hDH (.slice a6 (lx.length + 1) c6)
      generalize w6.setCell ⟨D, x, none⟩ (.slice a6 (lx.length + 1) c6) = W3 at *
      obtain ⟨D2', e, -, cS, fS, -, -⟩ := hm3.stAt (x := x) (by have := HOK.out.st; omega)
      obtain rfl : D2 = D2' := by simpa using e
      have hxb : x < bits.length := by have := HOK.out.st; omega
      have hw0 := wrap_pow HOK.out.m6
      have hp0 : (0 : Int) < ((2 ^ M : Nat) : Int) := by have := Nat.two_pow_pos M; omega
      have hpe : ((2 ^ M : Nat) : Int) = (2 : Int) ^ M := by push_cast; rfl
      have hp64 : 2 ^ M ≤ 2 ^ 6 := Nat.pow_le_pow_right (by omega) HOK.out.m6
      have hHPM := Lib.hid fun wx => picked_any bt ((2 ^ M : Nat) : Int) wx hbt.1 hbt.2 hp0 (by omega)
      obtain ⟨hb0, hb1⟩ := pk_bd bt ((2 ^ M : Nat) : Int) hp0
      obtain ⟨pm, hpm⟩ : ∃ pm : Nat, pk bt ((2 ^ M : Nat) : Int) = (pm : Int) := ⟨(pk bt ((2 ^ M : Nat) : Int)).toNat, by omega⟩
      rw [hpm] at hb0 hb1 hHPM
      rw [hpe] at hHPM
      have hbl := bitsN_lt HOK.out.bits x
      have hor := i64_or_nat (bitsN bits x) pm (by omega) (by omega)
      rw [bitsN_eq HOK.out.bits hxb] at cS
      have HOL := Lib.hid (Nat.or_lt_two_pow hbl (show pm < 2 ^ M by omega))
      have HHE := Lib.hid (fun t (h : (bitsN bits x).testBit t = true) => show (bitsN bits x ||| pm).testBit t = true by rw [Nat.testBit_or, h]; rfl)
      have hm4 := (hm3.setSt x ((bitsN bits x ||| pm : Nat) : Int)).1
      have hD2G : D2 ≠ G := by omega
      have hD2H : D2 ≠ H := by omega
      have HX4 := Lib.hid (Below.drew (ext_st HX3.out (p := ⟨D2, x, none⟩) (by show w1.heap.size ≤ D2; have := HGe.out; omega) (.int .i64 ((bitsN bits x ||| pm : Nat) : Int))))
      have BG4 := Lib.hid (blk_ext (blk_far bG3 (p := ⟨D2, x, none⟩) hD2G (.int .i64 ((bitsN bits x ||| pm : Nat) : Int))) (Below.drew (Ext.refl _)))
      have BH4 := Lib.hid (blk_ext (blk_far bH3 (p := ⟨D2, x, none⟩) hD2H (.int .i64 ((bitsN bits x ||| pm : Nat) : Int))) (Below.drew (Ext.refl _)))
      have HM4 := Lib.hid (hm4.ext (Below.drew (Ext.refl _)))
      have cG4 := blk_cell bG3 (i := 4) rfl
      have cH3 := blk_cell bH3 (i := 3) rfl
      clear hm3 hm4 bG3 bH3 hp64 hbl hpm hE6 hO6
      generalize bitsN bits x ||| pm = vo at *
      generalize hvb : bitsN bits x = vb at *
      have HVB := Lib.hid hvb
      clear hvb
      go_wp2_with fail
      go_cut [12] (fun s12 wx => s12 = .int .i64 (x : Int) ∧ wx = (W3.setCell ⟨D2, x, none⟩ (.int .i64 (vo : Int))).drew)
      case first =>
        go_region_law (go_simp
                       go_at_call 14
                       refine (hHPM.out _).mono ?_
                       rintro e wq ⟨rfl, rfl⟩)
        all_goals
          go_wp2_with fail
          go_meet
          exact ⟨rfl, rfl⟩
      case rest =>
        obtain ⟨rfl, rfl⟩ := hcut
        generalize (W3.setCell ⟨D2, x, none⟩ (.int .i64 (vo : Int))).drew = W4 at *
        have cG0 := blk_cell BG4.out (i := 0) rfl
        have cG1 := blk_cell BG4.out (i := 1) rfl
        have cG2 := blk_cell BG4.out (i := 2) rfl
        have cG3 := blk_cell BG4.out (i := 3) rfl
        have cG4' := blk_cell BG4.out (i := 4) rfl
        clear cG4 cH3 cS fS
        have HM5 := HM4
        have HB5 := Lib.hid (show w.heap.size ≤ W4.heap.size by have := HE1.out.size; have := HX4.out.size; omega)
        have HFG := Lib.hid (HFA.out _ HX4.out)
        go_wp2_with fail
        refine HFG.out.mono ?_
        rintro e w5 ⟨hce, hE5⟩
        have HCE := Lib.hid hce
        have HE5 := Lib.hid hE5
        have bH5 := blk_ext BH4.out hE5
        have cH0 := blk_cell bH5 (i := 0) rfl
        have cH1 := blk_cell bH5 (i := 1) rfl
        have cH2 := blk_cell bH5 (i := 2) rfl
        have cH3 := blk_cell bH5 (i := 3) rfl
        have cH4 := blk_cell bH5 (i := 4) rfl
        have hgk := gok_more HOK.out hxn (y := (pb : Int)) ⟨by omega, hp1⟩ (v := (vo : Int)) ⟨by omega, by have := HOL.out; rw [← hpe]; omega⟩
        rw [HNL.out] at hgk
        have hm5 := HM5.out.ext hE5
        have hfh := fairR_any (.slice asp2 n csp2) (.slice (some ⟨D, 0, none⟩) n cx2) (.slice (some ⟨D2, 0, none⟩) n ct2) ini M spots _ _ w5 hm5.spots hm5.lists hm5.ints (by rw [HSL.out]; exact hgk)
        rw [HSL.out] at hfh
        have e1 : (next.set x (lx ++ [(pb : Int)])).length = n := by rw [List.length_set]; exact HOK.out.nx
        have e2 : (bits.set x (vo : Int)).length = n := by rw [List.length_set]; exact HOK.out.st
        have HFH := Lib.hid hfh
        have HWW := Lib.hid ((HE1.out.trans HX4.out).trans hE5)
        clear hfh hgk hm5 bH5 hE5 e1 e2
        obtain ⟨m, rfl, hfm, -⟩ | ⟨rfl, -⟩ := hce
        · have HFM := Lib.hid hfm
          clear hfm
          go_wp2_with fail
          refine HFH.out.mono ?_
          rintro e w6 ⟨hcf, hE6⟩
          obtain ⟨m2, rfl, -, -⟩ | ⟨rfl, hno⟩ := hcf
          · have HE6 := Lib.hid (HWW.out.trans hE6)
            clear hE6
            go_wp2
            go_ret
            exact ⟨rfl, HE6.out⟩
          · obtain ⟨k1, k2, k3⟩ := HFM.out
            have hmore := FairAt.more (B := next.set x (lx ++ [(pb : Int)])) (q := bitsN (bits.set x (vo : Int))) k1 k2 k3 (fun a b h => by have := edge_set hxL (pb : Int) h; rw [HNL.out] at this; exact this) (fun i t h => bits_set vo (fun t h => HHE.out t (HVB.out ▸ h)) hxb i t h)
            obtain ⟨m', h1, h2, h3⟩ := hmore
            exact absurd ⟨h1, h2, h3⟩ (hno m')
        · go_wp2_with fail
          refine HFH.out.mono ?_
          rintro e w6 ⟨hcf, hE6⟩
          have HE6 := Lib.hid (HWW.out.trans hE6)
          clear hE6
          obtain ⟨m2, rfl, -, -⟩ | ⟨rfl, -⟩ := hcf
          all_goals
            go_wp2
            go_ret
            exact ⟨rfl, HE6.out⟩

theorem fairMore_law (cs : Array Value) (v1 v2 v3 : Value) (W : World) (h0 : Cells Try.prog W 25 cs.toList) (g1 : Cells Try.prog W 3 [v1]) (g2 : Cells Try.prog W 3 [v2]) (g3 : Cells Try.prog W 3 [v3]) :
    Calls Try.prog 5 #[.agg cs, v1, v2, v3] W fun e w' => e = .returned (.bool true) ∧ Ext W w' := by
  obtain ⟨vn, vs, ll, sets, init, many, rfl, hN, hS, hI, hT, h1, h2⟩ := h0.wires
  obtain ⟨a, ha, ha2⟩ := g1.i64 Try.underlying3
  obtain ⟨b, hb, hb2⟩ := g2.i64 Try.underlying3
  obtain ⟨c, hc, hc2⟩ := g3.i64 Try.underlying3
  cases ha; cases hb; cases hc
  exact fairMore_walk vn vs ll sets init many a b c W hN hS hI hT h1 h2 ha2 hb2 hc2

end Go.Proofs.Ytknomfdeefakbaa
