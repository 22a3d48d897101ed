/- The law StoreSteady. -/
import Derived.Test.YtmacgcaehfjoiaaStN
import Derived.Deep.DeepCutAuto
import Derived.Deep.RegionLaw
namespace Go.Proofs.Ytmacgcaehfjoiaa
open Go.RowKit

set_option maxRecDepth 100000 in
set_option maxHeartbeats 16000000 in
theorem storeSteady_walk (v : Value) (l : List Int) (which : Int) (W : World) (h : Ints W v l) (hI : ∀ n ∈ l, I64 n) (hwhich : I64 which) :
    Calls Try.prog 4 #[v, .int .i64 which] W fun e w' => e = .returned (.bool true) ∧ Ext W w' := by
  have HST := Lib.hid (stocked_any v l W h hI)
  obtain ⟨aA, cA, rfl, hrA⟩ := h
  have hlA : l.length ≤ 9223372036854775807 := by have h1 := hrA.le; have h2 := hrA.max; unfold maxLen at h2; omega
  clear hrA hI
  go_enter Try.func4, Try.ntmps4
  go_wp2_with fail
  refine HST.out.mono ?_
  rintro e w1 ⟨lv, rv, kv, s, ks, rfl, hS, hKI, hK, hKb, hK1, hK0, hE1⟩
  obtain ⟨al, cl, ar, cr, rfl, rfl⟩ := hS.val
  obtain ⟨ak, ck, rfl, hrk⟩ := id hKI
  have hkc := hrk.le
  have hkm := hrk.max
  unfold maxLen at hkm
  have hx := ext_al (Ext.refl w1) (Obj.cells #[.slice al s.loose.length cl, .slice ar s.runs.length cr] 25)
  have hb := blk_new w1 (Obj.cells #[.slice al s.loose.length cl, .slice ar s.runs.length cr] 25)
  have HS0 := Lib.hid hS
  have HS := Lib.hid (hS.ext hx)
  have HKI := Lib.hid (hKI.ext hx)
  have HB := Lib.hid hb
  have HX := Lib.hid (hE1.trans hx)
  have HK := Lib.hid hK
  have HKB := Lib.hid hKb
  have HK0 := Lib.hid hK0
  have d0 := blk_cell hb (i := 0) rfl
  have d1 := blk_cell hb (i := 1) rfl
  have hlen := hK.len
  have hskl := St.keys_len s
  have hfew := hK.ok.runs_few
  obtain ⟨D, hD⟩ : ∃ D, w1.heap.size = D := ⟨_, rfl⟩
  rw [hD] at HB d0 d1
  have HD := Lib.hid hD
  clear hS hKI hK hKb hK0 hE1 hx hb hrk HST
  by_cases hn : ks = []
  · have hn0 : ks.length = 0 := by rw [hn]; rfl
    have HNX := Lib.hid (has_bad _ _ s (-1) _ (HS0.out.ext (ext_al (Ext.refl w1) (Obj.cells #[.slice al s.loose.length cl, .slice ar s.runs.length cr] 25))) HK.out.ok (by omega) (by omega))
    rw [hn0]
    clear hn
    go_upto_region 3 with fail
    generalize w1.alloc (Obj.cells #[.slice al s.loose.length cl, .slice ar s.runs.length cr] 25) = W1 at *
    go_wp2_with fail
    refine HNX.out.mono ?_
    rintro e w2 ⟨rfl, hE2⟩
    have HX2 := Lib.hid (HX.out.trans hE2)
    clear hE2 d0 d1
    go_wp2
    go_ret
    exact ⟨rfl, HX2.out⟩
  · have hnp : 0 < ks.length := List.length_pos_iff.2 hn
    have hn0 : ((ks.length : Int) == 0) = false := by rw [beq_eq_false_iff_ne]; omega
    have hn1 : ¬ ks.length = 0 := by omega
    have HPK := Lib.hid fun wx => picked_any which (ks.length : Int) wx hwhich.1 hwhich.2 (by omega) (by omega)
    obtain ⟨hk1, hk2⟩ := pk_bd which (ks.length : Int) (by omega)
    obtain ⟨kn, hkn⟩ : ∃ kn : Nat, pk which (ks.length : Int) = (kn : Int) := ⟨(pk which (ks.length : Int)).toNat, by omega⟩
    rw [hkn] at HPK hk1 hk2
    have hkl : kn < ks.length := by omega
    obtain ⟨_, _, e1, hrk⟩ := id HKI.out
    simp only [Value.slice.injEq] at e1
    obtain ⟨rfl, -, rfl⟩ := e1
    obtain ⟨bk, ok, hak, hck⟩ := ints_at' hrk
    obtain rfl := hak hnp
    have ck1 := hck kn hkl
    have hkm2 : ks[kn] ∈ ks := by simp
    have hbd := HKB.out _ hkm2
    have HAD := Lib.hid fun wx (hx : Ext w1 wx) => add_st _ _ s ks[kn] wx (HS0.out.ext hx) HK.out.ok (by omega) (by omega)
    have HOLD := Lib.hid (HK.out.old hkm2)
    have HDF := Lib.hid (show decide (ks[kn] ∉ s.keys) = false by
      rw [decide_eq_false_iff_not, HK.out.mem]; exact fun h => h hkm2)
    rw [HDF.out, HOLD.out] at HAD
    have HX1 := Lib.hid (ext_al (Ext.refl w1) (Obj.cells #[.slice al s.loose.length cl, .slice ar s.runs.length cr] 25))
    generalize ks[kn] = key at *
    have hk3 : (kn : Int) < (ks.length : Int) := hk2
    clear hn hrk hak hck hkn hkm2 hbd HDF HOLD hwhich
    go_upto_region 5 with fail
    generalize w1.alloc (Obj.cells #[.slice al s.loose.length cl, .slice ar s.runs.length cr] 25) = W1 at *
    clear hD
    have ck2 := cell_later (ext_al (Ext.refl W1) (Obj.cells #[.slice none 0 0, .slice none 0 0] 25)) ck1
    have d02 := cell_later (ext_al (Ext.refl W1) (Obj.cells #[.slice none 0 0, .slice none 0 0] 25)) d0
    have d12 := cell_later (ext_al (Ext.refl W1) (Obj.cells #[.slice none 0 0, .slice none 0 0] 25)) d1
    go_cut [10, 11, 12] (fun s10 s11 s12 wx => s11 = .bool false ∧ s12 = .int .i64 0 ∧ ∃ (Q : Nat) (l2 r2 : Value), s10 = .pointer (some ⟨Q, 0, none⟩) ∧ wx.heap[Q]? = some (.cells #[l2, r2] 25 (0, 0)) ∧ IsSt wx l2 r2 s ∧ Ext W1 wx)
    case first =>
      go_region_law (first
        | (go_simp
           go_at_call 11
           refine (HPK.out _).mono ?_
           rintro e wq ⟨rfl, rfl⟩)
        | (go_simp
           go_at_call 10
           refine (HAD.out _ (by first | exact HX1.out.trans (Below.drew (Ext.refl _)) | exact HX1.out.trans (ext_al (Below.drew (Ext.refl _)) _) | exact HX1.out.trans (Below.drew (ext_al (Ext.refl _) _)))).mono ?_
           rintro e w5 ⟨l2, r2, rfl, hS5, hE5⟩
           obtain ⟨a2, c2, a3, c3, rfl, rfl⟩ := hS5.st.val
           first
             | (have hb2 : w5.heap[W1.heap.size]? = some (.cells #[.slice none 0 0, .slice none 0 0] 25 (0, 0)) := by
                  first
                    | exact blk_ext (blk_new W1 _) hE5
                    | exact blk_ext (blk_new W1.drew _) hE5
                    | exact blk_ext (blk_new W1 _) (Ext.trans (Below.drew (Ext.refl _)) hE5)
                have hEX : Ext W1 w5 := by
                  first
                    | exact Ext.trans (ext_al (Ext.refl _) _) hE5
                    | exact Ext.trans (ext_al (Below.drew (Ext.refl _)) _) hE5
                    | exact Ext.trans (Below.drew (ext_al (Ext.refl _) _)) hE5
                have r5 := blk_cell hb2 (i := 0) rfl
                have g5 := blk_free hb2 0
                have hRa := blk_set (i := 0) hb2 (.slice a2 s.loose.length c2)
                rw [(set2 _ _ _).1] at hRa
                have r6 := blk_cell hRa (i := 1) rfl
                have g6 := blk_free hRa 1
                have hws : W1.heap.size < w5.heap.size := blk_lt hb2
                have HFIN := Lib.hid (show NewSt W1 (.slice a2 s.loose.length c2) (.slice a3 s.runs.length c3) s W1.heap.size ((w5.setCell ⟨W1.heap.size, 0, none⟩ (.slice a2 s.loose.length c2)).setCell ⟨W1.heap.size, 1, none⟩ (.slice a3 s.runs.length c3)) from
                  ⟨by have h := blk_set (i := 1) hRa (.slice a3 s.runs.length c3); rw [(set2 _ _ _).2] at h; exact h,
                   FrSt.down (base := W1.heap.size + 1) (((hS5.down (by first | exact Nat.le_refl _ | simp)).set (p := ⟨W1.heap.size, 0, none⟩) (Nat.lt_succ_self _) _).set (p := ⟨W1.heap.size, 1, none⟩) (Nat.lt_succ_self _) _) (Nat.le_succ _),
                   ext_st (ext_st hEX (Nat.le_refl _) _) (Nat.le_refl _) _⟩)
                clear hE5 hb2 hEX hRa hws)
             | (have hEX : Ext W1 w5 := by
                  first
                    | exact hE5
                    | exact Ext.trans (Below.drew (Ext.refl _)) hE5
                have HFIN := Lib.hid (show NewSt W1 (.slice a2 s.loose.length c2) (.slice a3 s.runs.length c3) s w5.heap.size (w5.alloc (Obj.cells #[(.slice a2 s.loose.length c2), (.slice a3 s.runs.length c3)] 25)) from
                  ⟨blk_new _ _, (hS5.down (by first | exact Nat.le_refl _ | (simp; done))).ext (ext_al (Ext.refl _) _), ext_al hEX _⟩)
                clear hE5 hEX)))
      all_goals
        go_wp2_with fail
        go_meet
        exact ⟨rfl, rfl, _, _, _, rfl, HFIN.out.b, HFIN.out.s.st, HFIN.out.e⟩
    case rest =>
      obtain ⟨rfl, rfl, Q, l2, r2, rfl, hQ, hS2, hE⟩ := hcut
      obtain ⟨a2, c2, a3, c3, rfl, rfl⟩ := hS2.val
      have u0 := blk_cell hQ (i := 0) rfl
      have u1 := blk_cell hQ (i := 1) rfl
      have d0 := cell_later hE d0
      have d1 := cell_later hE d1
      have hS1 := HS.out.ext hE
      have HSI := Lib.hid (sameInts_any _ _ s.loose wc hS1.lo hS2.lo)
      have HSL := Lib.hid fun n => sameLists_any _ _ s.runs (wc.drewN n) (hS1.ru.ext (below_drewN (Ext.refl _) n)) (hS2.ru.ext (below_drewN (Ext.refl _) n))
      have HEF := Lib.hid (HX.out.trans hE)
      have u1' := fun n => cell_later (below_drewN (Ext.refl wc) n) u1
      have d1' := fun n => cell_later (below_drewN (Ext.refl wc) n) d1
      clear hQ hS2 hE hS1 ck1 ck2 d02 d12 HAD
      go_wp2_with fail
      refine HSI.out.mono ?_
      rintro e w5 ⟨rfl, n, rfl⟩
      have u1 := u1' n
      have d1 := d1' n
      clear u1' d1'
      go_wp2_with fail
      refine (HSL.out n).mono ?_
      rintro e w6 ⟨rfl, m, rfl⟩
      go_wp2
      go_ret
      exact ⟨rfl, below_drewN HEF.out _⟩

theorem storeSteady_law (v0 : Value) (v1 : Value) (W : World) (h0 : Cells Try.prog W 22 [v0]) (h1 : Cells Try.prog W 3 [v1]) :
    Calls Try.prog 4 #[v0, v1] W fun e w' => e = .returned (.bool true) ∧ Ext W w' := by
  obtain ⟨v, l, e0, hl, hI⟩ := h0.ints Try.underlying22 Try.underlying3 (by kernel_rfl)
  cases e0
  obtain ⟨n1, e1, i1⟩ := h1.i64 Try.underlying3
  cases e1
  exact storeSteady_walk _ l n1 W hl hI i1

end Go.Proofs.Ytmacgcaehfjoiaa
