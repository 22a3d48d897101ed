/- The law TapeKeeps. -/
import Derived.Test.YtngcbfefhlheoaaOff
import Derived.Deep.RegionWith
namespace Go.Proofs.Ytngcbfefhlheoaa
open Go.RowKit

set_option maxRecDepth 100000 in
set_option maxHeartbeats 8000000 in
theorem tapeKeeps_walk (v vm vl : Value) (ll mm : List (List Int)) (last : List Int) (keep : Int) (w : World) (h : Lists w v ll) (hI : ∀ l ∈ ll, ∀ n ∈ l, I64 n) (h2 : Lists w vm mm) (hI2 : ∀ l ∈ mm, ∀ n ∈ l, I64 n)
    (h3 : Ints w vl last) (hI3 : ∀ n ∈ last, I64 n) (hk1 : -9223372036854775808 ≤ keep) (hk2 : keep ≤ 9223372036854775807) :
    Calls Try.prog 7 #[v, vm, .int .i64 keep, vl] w fun e w' => e = .returned (.bool true) ∧ Ext w w' := by
  obtain ⟨a, c, rfl⟩ : ∃ a c, v = .slice a ll.length c := by
    obtain ⟨vs, he, a, c, rfl, _⟩ := h
    exact ⟨a, c, rfl⟩
  obtain ⟨am, cm, rfl⟩ : ∃ a c, vm = .slice a mm.length c := by
    obtain ⟨vs, he, a, c, rfl, _⟩ := h2
    exact ⟨a, c, rfl⟩
  obtain ⟨al, cl, rfl, hrl⟩ := h3
  have HT := Lib.hid (taped_any _ ll w h hI)
  obtain ⟨_, hle, hmx, bm, om, ham, hcm⟩ := h2.cells
  unfold maxLen at hmx
  have hmm : mm.length ≤ 9223372036854775807 := by omega
  have hg := recs_good ll 10
  have hlen := recs_len ll 10
  have h12 := tapeB_le (recs ll 10) (recs_12 ll 10)
  have hr12 := recs_12 ll 10
  have hbl : (tapeB (recs ll 10)).length ≤ 560 := by omega
  have hrl10 : (recs ll 10).length ≤ 10 := by omega
  have HAM := Lib.hid ham
  have HCM := Lib.hid hcm
  have HI2 := Lib.hid hI2
  have HLA := Lib.hid (show Ints w (.slice al last.length cl) last from ⟨_, _, rfl, hrl⟩)
  have HI3 := Lib.hid hI3
  have HG := Lib.hid hg
  have HR12 := Lib.hid hr12
  clear h hI h2 hI2 hrl hI3 hle hmx ham hcm hg hlen h12 hr12
  generalize recs ll 10 = rs at *
  go_enter Try.func7, Try.ntmps7
  go_wp2_with fail
  refine HT.out.mono ?_
  rintro e w1 ⟨vd, vr, rfl, hown, hL, hE1⟩
  obtain ⟨ad, cd, rfl, hr⟩ := hown.row
  obtain ⟨ar, cr, rfl⟩ : ∃ a c, vr = .slice a rs.length c := by
    obtain ⟨vs, he, a, c, rfl, _⟩ := hL.lists
    exact ⟨a, c, rfl⟩
  have hB : Bytes w1 (.slice ad (tapeB rs).length cd) (tapeB rs) := ⟨_, _, rfl, hr⟩
  generalize hbs : tapeB rs = bs at *
  have HBS := Lib.hid hbs
  have hA : Ext w1 (w1.alloc (Obj.cells #[.slice ad bs.length cd, .int .i64 0] 30)) := (Ext.refl w1).alloc (Nat.le_refl _) _
  have HSY := Lib.hid (sync_any _ bs 0 _ (hB.ext hA) (by omega) (by omega) (by omega))
  have hLs := OffL.of (T := w1.heap.size) hL.lists (Nat.le_refl _)
  have x0 : (w1.alloc (Obj.cells #[.slice ad bs.length cd, .int .i64 0] 30)).cell? ⟨w1.heap.size, 0, none⟩ = some (.slice ad bs.length cd) := by simp [go_sem]
  have x1 : (w1.alloc (Obj.cells #[.slice ad bs.length cd, .int .i64 0] 30)).cell? ⟨w1.heap.size, 1, none⟩ = some (.int .i64 0) := by simp [go_sem]
  have xz : ∀ i, (w1.alloc (Obj.cells #[.slice ad bs.length cd, .int .i64 0] 30)).frozen? ⟨w1.heap.size, i, none⟩ = false := by intro i; simp [go_sem]
  have hsz : w1.heap.size < (w1.alloc (Obj.cells #[.slice ad bs.length cd, .int .i64 0] 30)).heap.size := by simp
  have HL := Lib.hid (hLs.ext hA)
  have HE1 := Lib.hid hE1
  have HA := Lib.hid hA
  clear hbs hown hL hr hB hA hLs HT hE1
  go_wp2_with fail
  generalize w1.alloc (Obj.cells #[.slice ad bs.length cd, .int .i64 0] 30) = W1 at *
  refine HSY.out.mono ?_
  rintro e w2 ⟨v2, rfl, hown2, hE2⟩
  obtain ⟨a2, c2, rfl, hr2⟩ := hown2.row
  have y0 := cell_later hE2 x0
  have y1 := cell_later hE2 x1
  have yz : ∀ i, w2.frozen? ⟨w1.heap.size, i, none⟩ = false := fun i => (World.frozen?_of_block (hE2.block w1.heap.size hsz)).trans (xz i)
  have yz0 := yz 0
  have yz1 := yz 1
  have hs2 := hE2.size
  have hB2 : OffB w2 w1.heap.size (.slice a2 bs.length c2) bs := ⟨⟨_, _, rfl, hr2⟩, .inr (fun e => by have := (hown2.lt _ e).1; omega)⟩
  have hb2 : Below w1.heap.size w1 w2 := Below.trans HA.out (hE2.mono (by omega))
  have HB2 := Lib.hid ((hB2.set 0 (.slice a2 bs.length c2)).set 1 (.int .i64 (bs.length : Int)))
  have HL2 := Lib.hid (((HL.out.ext hE2).set 0 (.slice a2 bs.length c2)).set 1 (.int .i64 (bs.length : Int)))
  have HBL := Lib.hid ((hb2.setCell (p := ⟨w1.heap.size, 0, none⟩) (Nat.le_refl _) (.slice a2 bs.length c2)).setCell (p := ⟨w1.heap.size, 1, none⟩) (Nat.le_refl _) (.int .i64 (bs.length : Int)))
  have u0 : ((w2.setCell ⟨w1.heap.size, 0, none⟩ (.slice a2 bs.length c2)).setCell ⟨w1.heap.size, 1, none⟩ (.int .i64 (bs.length : Int))).cell? ⟨w1.heap.size, 0, none⟩ = some (.slice a2 bs.length c2) := cellN (cellS y0) (by omega)
  have u1 : ((w2.setCell ⟨w1.heap.size, 0, none⟩ (.slice a2 bs.length c2)).setCell ⟨w1.heap.size, 1, none⟩ (.int .i64 (bs.length : Int))).cell? ⟨w1.heap.size, 1, none⟩ = some (.int .i64 (bs.length : Int)) := cellS (cellN y1 (by omega))
  have uz : ∀ i, ((w2.setCell ⟨w1.heap.size, 0, none⟩ (.slice a2 bs.length c2)).setCell ⟨w1.heap.size, 1, none⟩ (.int .i64 (bs.length : Int))).frozen? ⟨w1.heap.size, i, none⟩ = false := fun i => by rw [World.frozen?_setCell, World.frozen?_setCell]; exact yz i
  have us : w1.heap.size < ((w2.setCell ⟨w1.heap.size, 0, none⟩ (.slice a2 bs.length c2)).setCell ⟨w1.heap.size, 1, none⟩ (.int .i64 (bs.length : Int))).heap.size := by simp; omega
  have HU0 := Lib.hid u0
  have HU1 := Lib.hid u1
  have HUZ := Lib.hid uz
  have HUS := Lib.hid us
  clear x0 x1 xz hown2 hr2 hE2 hB2 hb2 HL HA HSY u0 u1 uz us yz hs2 hsz
  go_wp2_with fail
  generalize (w2.setCell ⟨w1.heap.size, 0, none⟩ (.slice a2 bs.length c2)).setCell ⟨w1.heap.size, 1, none⟩ (.int .i64 (bs.length : Int)) = W2 at *
  have HW1 : Hid (∃ T, T = w1.heap.size) := Lib.hid ⟨_, rfl⟩
  clear y0 y1 yz0 yz1
  generalize hT : w1.heap.size = T at *
  have hTe := Lib.hid hT
  clear hT HW1
  go_loopw [13, 14] (fun x y wr => ∃ (k : Nat) (vd : Value), y = .int .i64 (k : Int) ∧ k ≤ 8 ∧ k ≤ mm.length ∧ wr.cell? ⟨T, 0, none⟩ = some vd ∧ wr.cell? ⟨T, 1, none⟩ = some (.int .i64 (bs.length : Int)) ∧ (∀ i, wr.frozen? ⟨T, i, none⟩ = false) ∧
    OffB wr T vd (tapeB (rs ++ recs mm k)) ∧ OffL wr T x (rs ++ recs mm k) ∧ OffL wr T (.slice ar rs.length cr) rs ∧ Below T w1 wr ∧ T < wr.heap.size) (fun _ y _ => 9 - (intOf y).toNat)
  case atStart =>
    have e0 : rs ++ recs mm 0 = rs := by simp [recs]
    exact ⟨0, _, by go_num, by omega, by omega, HU0.out, HU1.out, HUZ.out, by rw [e0, HBS.out]; exact HB2.out, by rw [e0]; exact HL2.out, HL2.out, HBL.out, HUS.out⟩
  case round =>
    obtain ⟨k, vd, rfl, hk8, hkm, t0, t1, tz, hB, hLx, hLr, hbel, hTs⟩ := hrel
    clear HU0 HU1 HUZ HUS HB2 HL2 HBL
    have hal18 : (rs ++ recs mm k).length ≤ 18 := by rw [List.length_append, recs_len]; omega
    have hD : (tapeB (rs ++ recs mm k)).length ≤ 1008 := by
      have := (tapeB_le (rs ++ recs mm k) (fun z hz => by rcases List.mem_append.1 hz with h | h; exact HR12.out z h; exact recs_12 mm k z h)).1
      omega
    have hsD : bs.length ≤ (tapeB (rs ++ recs mm k)).length := by
      have e : tapeB (rs ++ recs mm k) = tapeB rs ++ tapeB (recs mm k) := by simp [tapeB]
      rw [e, HBS.out, List.length_append]; omega
    obtain ⟨avd, cvd, rfl, hrd⟩ := hB.1
    obtain ⟨ax, cx, rfl⟩ : ∃ a c, u13 = .slice a (rs ++ recs mm k).length c := by
      obtain ⟨vs, he, a, c, rfl, _⟩ := hLx.lists
      exact ⟨a, c, rfl⟩
    have hEw : Ext w wr := Below.trans HE1.out (hbel.mono (by have := HE1.out.size; have := hTe.out; omega))
    by_cases hlt : k < mm.length ∧ k < 8
    · obtain ⟨hlt1, hlt2⟩ := hlt
      obtain ⟨ai, ci, hx, hx2⟩ := HCM.out k hlt1
      obtain rfl := HAM.out (by omega)
      replace hx := cell_later hEw hx
      have hAS : rs ++ recs mm (k + 1) = (rs ++ recs mm k) ++ [recL mm[k]] := by rw [recs_succ mm k hlt1, List.append_assoc]
      have hTS : tapeB (rs ++ recs mm (k + 1)) = tapeB (rs ++ recs mm k) ++ recB (recL mm[k]) := by rw [hAS, tapeB_snoc]
      have HREC := Lib.hid (record_any _ mm[k] wr (hx2.ext hEw) (HI2.out mm[k] (by simp)))
      have hz12 : (recL mm[k]).length ≤ 12 := by rw [recL_len]; omega
      have HZI := Lib.hid (recL_bd mm[k])
      have HAS := Lib.hid hAS
      have HTS := Lib.hid hTS
      have HEW := Lib.hid hEw
      have HB := Lib.hid hB
      have HLX := Lib.hid hLx
      have HLR := Lib.hid hLr
      have HBEL := Lib.hid hbel
      clear hx2 hAS hTS hEw hrd hB hLx hLr hbel
      generalize recL mm[k] = z at *
      generalize mm[k] = mk at *
      generalize tapeB (rs ++ recs mm k) = D at *
      generalize rs ++ recs mm k = all at *
      go_wp2_with fail
      refine HREC.out.mono ?_
      rintro e w3 ⟨v3, rfl, hown3, hE3⟩
      obtain ⟨a3, c3, rfl, hr3⟩ := hown3.row
      have hI3 : Ints w3 (.slice a3 z.length c3) z := ⟨_, _, rfl, hr3⟩
      have h3lt : ∀ b, (Value.slice a3 z.length c3).ownBlock = some b → T < b := fun b hb => by have := (hown3.lt b hb).1; omega
      have H3LT := Lib.hid h3lt
      have HWR := Lib.hid (write_own (.slice avd D.length cvd) (.slice a3 z.length c3) D (bs.length : Int) z w3 (HB.out.1.ext hE3) hI3 (by omega) (by omega) (by omega) (by omega) HZI.out)
      have HI3 := Lib.hid hI3
      have t03 := cell_later hE3 t0
      have t13 := cell_later hE3 t1
      have tz3 : ∀ i, w3.frozen? ⟨T, i, none⟩ = false := fun i => (World.frozen?_of_block (hE3.block T hTs)).trans (tz i)
      have HE3 := Lib.hid hE3
      have hs3 := hE3.size
      clear hown3 hr3 hI3 h3lt t0 t1 tz hE3 HREC hx
      go_wp2_with fail
      refine HWR.out.mono ?_
      rintro e w4 ⟨v4, rfl, hown4, hE4⟩
      obtain ⟨a4, c4, rfl, hr4⟩ := hown4.row
      generalize hL4 : (D ++ recB z).length = L4 at *
      have HL4 := Lib.hid hL4
      clear hL4
      have hs4 := hE4.size
      have t04 := cell_later hE4 t03
      have t14 := cell_later hE4 t13
      have hT4 : T < w4.heap.size := by omega
      have tz4 : ∀ i, w4.frozen? ⟨T, i, none⟩ = false := fun i => (World.frozen?_of_block (hE4.block T (by omega))).trans (tz3 i)
      have a04 : (w4.alloc (Obj.cells #[.slice a4 L4 c4, .int .i64 (bs.length : Int)] 30)).cell? ⟨T, 0, none⟩ = some (.slice avd D.length cvd) := by rw [World.cell?_alloc_past _ _ _ hT4]; exact t04
      have a14 : (w4.alloc (Obj.cells #[.slice a4 L4 c4, .int .i64 (bs.length : Int)] 30)).cell? ⟨T, 1, none⟩ = some (.int .i64 (bs.length : Int)) := by rw [World.cell?_alloc_past _ _ _ hT4]; exact t14
      have az4 : ∀ i, (w4.alloc (Obj.cells #[.slice a4 L4 c4, .int .i64 (bs.length : Int)] 30)).frozen? ⟨T, i, none⟩ = false := fun i => by rw [World.frozen?_alloc_past _ _ _ hT4]; exact tz4 i
      have az0 := az4 0
      have az1 := az4 1
      have hE34 := HE3.out.trans hE4
      have hAl : Ext w4 (w4.alloc (Obj.cells #[.slice a4 L4 c4, .int .i64 (bs.length : Int)] 30)) := (Ext.refl w4).alloc (Nat.le_refl _) _
      have hLx5 := (((HLX.out.ext hE34).ext hAl).set 0 (.slice a4 L4 c4)).set 1 (.int .i64 (bs.length : Int))
      have hLr5 := (((HLR.out.ext hE34).ext hAl).set 0 (.slice a4 L4 c4)).set 1 (.int .i64 (bs.length : Int))
      have hI5 := ((show OffI (w4.alloc (Obj.cells #[.slice a4 L4 c4, .int .i64 (bs.length : Int)] 30)) T (.slice a3 z.length c3) z from ⟨(HI3.out.ext hE4).ext hAl, .inr (fun e => by have := H3LT.out _ e; omega)⟩).set 0 (.slice a4 L4 c4)).set 1 (.int .i64 (bs.length : Int))
      have hB5 := ((show OffB (w4.alloc (Obj.cells #[.slice a4 L4 c4, .int .i64 (bs.length : Int)] 30)) T (.slice a4 L4 c4) (D ++ recB z) from ⟨Reads.ext (by rw [HL4.out]; exact ⟨a4, c4, rfl, hr4⟩) hAl, .inr (fun e => by have := (hown4.lt _ e).1; omega)⟩).set 0 (.slice a4 L4 c4)).set 1 (.int .i64 (bs.length : Int))
      have b5 : Below T w1 (((w4.alloc (Obj.cells #[.slice a4 L4 c4, .int .i64 (bs.length : Int)] 30)).setCell ⟨T, 0, none⟩ (.slice a4 L4 c4)).setCell ⟨T, 1, none⟩ (.int .i64 (bs.length : Int))) := (((HBEL.out.trans (hE34.mono (by omega))).trans (hAl.mono (by omega))).setCell (p := ⟨T, 0, none⟩) (Nat.le_refl _) (.slice a4 L4 c4)).setCell (p := ⟨T, 1, none⟩) (Nat.le_refl _) (.int .i64 (bs.length : Int))
      have c50 : (((w4.alloc (Obj.cells #[.slice a4 L4 c4, .int .i64 (bs.length : Int)] 30)).setCell ⟨T, 0, none⟩ (.slice a4 L4 c4)).setCell ⟨T, 1, none⟩ (.int .i64 (bs.length : Int))).cell? ⟨T, 0, none⟩ = some (.slice a4 L4 c4) := cellN (cellS a04) (by omega)
      have c51 : (((w4.alloc (Obj.cells #[.slice a4 L4 c4, .int .i64 (bs.length : Int)] 30)).setCell ⟨T, 0, none⟩ (.slice a4 L4 c4)).setCell ⟨T, 1, none⟩ (.int .i64 (bs.length : Int))).cell? ⟨T, 1, none⟩ = some (.int .i64 (bs.length : Int)) := cellS (cellN a14 (by omega))
      have cz5 : ∀ i, (((w4.alloc (Obj.cells #[.slice a4 L4 c4, .int .i64 (bs.length : Int)] 30)).setCell ⟨T, 0, none⟩ (.slice a4 L4 c4)).setCell ⟨T, 1, none⟩ (.int .i64 (bs.length : Int))).frozen? ⟨T, i, none⟩ = false := fun i => by rw [World.frozen?_setCell, World.frozen?_setCell]; exact az4 i
      have hs5 : (((w4.alloc (Obj.cells #[.slice a4 L4 c4, .int .i64 (bs.length : Int)] 30)).setCell ⟨T, 0, none⟩ (.slice a4 L4 c4)).setCell ⟨T, 1, none⟩ (.int .i64 (bs.length : Int))).heap.size = w4.heap.size + 1 := by simp
      obtain ⟨vs, hEa, ⟨ax', cx', e', hrx⟩, hxT, hels⟩ := hLx5
      simp only [Value.slice.injEq] at e'
      obtain ⟨rfl, _, rfl⟩ := e'
      have hone : ∀ u ∈ vs, u.oneCell' = true := fun u hu => by
        obtain ⟨i, hi⟩ := List.mem_iff_getElem?.1 hu
        have hlt : i < all.length := by rw [← hEa.1]; exact (List.getElem?_eq_some_iff.1 hi).1
        obtain ⟨_, _, rfl, _⟩ := hEa.2 i u all[i] hi (by simp)
        rfl
      have HEa := Lib.hid hEa
      have HELS := Lib.hid hels
      have HLR5 := Lib.hid hLr5
      have HI5 := Lib.hid hI5
      have HB5 := Lib.hid hB5
      have HB5B := Lib.hid b5
      have HC0 := Lib.hid c50
      have HC1 := Lib.hid c51
      have HCZ := Lib.hid cz5
      have HS5 := Lib.hid hs5
      have hne1 : ¬ w4.heap.size = T := by omega
      have hne2 : ¬ T = w4.heap.size := by omega
      have HT4 := Lib.hid hT4
      have HTS4 := Lib.hid hTs
      have HS3 := Lib.hid hs3
      have HS4 := Lib.hid hs4
      clear hT4 hTs hs3 hs4 hEa hels hLr5 hI5 hB5 b5 c50 c51 cz5 hs5 hxT t03 t13 tz3 t04 t14 tz4 az4 hE34 hAl hown4 hr4 hE4 HWR
      go_wp2_with (at_builtin; go_must (refine wpl_append rfl rfl Try.slLists w4.heap.size rfl (World.ownsRow_nil _ _ _ _) rfl hrx hone (by unfold maxLen; omega) (by omega) (by simp) ?_))
      intro v5 w5 hown5 hg5 hb5 _
      clear a04 a14 az0 az1
      generalize ((w4.alloc (Obj.cells #[.slice a4 L4 c4, .int .i64 (bs.length : Int)] 30)).setCell ⟨T, 0, none⟩ (.slice a4 L4 c4)).setCell ⟨T, 1, none⟩ (.int .i64 (bs.length : Int)) = W5 at *
      have hE5 : Ext W5 w5 := (Ext.refl W5).grown hg5 (Nat.le_refl _) (by simp [Value.ownBlock])
      have hs5 := HS5.out
      try simp only [List.nil_append, Nat.zero_add] at hown5
      have hE5a : Ext w5 (w5.alloc (Obj.cells #[.slice a3 z.length c3] 27)) := (Ext.refl w5).alloc (Nat.le_refl _) _
      have hown5a := hown5.alloc (Obj.cells #[.slice a3 z.length c3] 27)
      have hb5v : ∀ b, v5.ownBlock = some b → W5.heap.size ≤ b := fun b hb => by
        rcases hb5 with h | h
        · rw [h] at hb; simp [Value.ownBlock] at hb
        · rw [h] at hb; injection hb with hb; omega
      have hAp : Apart v5 vs all := fun i u l hu hl => by
        by_cases hl0 : l = []
        · exact .inl hl0
        · refine .inr fun b hb e => ?_
          have := hb5v b hb
          have := ints_lt (HEa.out.2 i u l hu hl) hl0 b e
          omega
      have hEa5 := (HEa.out.ext hE5).ext hE5a
      have hI5a := (HI5.out.1.ext hE5).ext hE5a
      have hxa : z = [] ∨ ∀ b, v5.ownBlock = some b → (Value.slice a3 z.length c3).ownBlock ≠ some b := by
        by_cases hz0 : z = []
        · exact .inl hz0
        · refine .inr fun b hb e => ?_
          have := hb5v b hb
          have := ints_lt HI5.out.1 hz0 b e
          omega
      have hs55 := hE5.size
      have hSN := fun w6 v6 m (ho : w6.ownsRow w4.heap.size 27 1 v6 m (vs ++ [.slice a3 z.length c3])) hg hb => snoc_parts (w1 := w6) (v1 := v6) hEa5 hAp hI5a hxa ho hg hb
      have HSN := Lib.hid hSN
      have HE5 := Lib.hid (hE5.trans hE5a)
      have HO5 := Lib.hid hown5
      have H5V := Lib.hid hb5v
      have HVL := Lib.hid (show all.length = vs.length from HEa.out.1.symm)
      obtain ⟨ax5, cx5, rfl, _⟩ := hown5.row
      clear hb5 hg5 hAp hEa5 hI5a hxa hSN hE5 hE5a hown5 hb5v
      go_wp2_with (at_builtin; go_must (refine wpl_append rfl rfl Try.slLists w4.heap.size rfl hown5a rfl (Row.one _ _ _) (by simp [Value.oneCell']) (by unfold maxLen; omega) (by omega) (by simp; omega) ?_))
      intro v6 w6 hown6 hg6 hb6 _
      have HO6 := Lib.hid hown6
      have HG6 := Lib.hid hg6
      have HB6 := Lib.hid hb6
      clear hown6 hg6 hb6 hown5a
      go_wp2_with fail
      go_roundw
      case rel =>
        have hvl := HVL.out
        have hT5 : T < W5.heap.size := by have := HTS4.out; have := HS3.out; have := HS4.out; omega
        have hparts := HSN.out w6 v6 _ HO6.out HG6.out (by simpa using HB6.out)
        have hE6 : Ext W5 w6 := HE5.out.grown HG6.out (by simp; omega) (fun b hb => H5V.out b hb)
        have h6T : v6.ownBlock ≠ some T := fun e => by have := (HO6.out.lt _ e).1; have := HT4.out; omega
        refine ⟨k + 1, .slice a4 L4 c4, by go_num, by omega, by omega, cell_later hE6 HC0.out, cell_later hE6 HC1.out, fun i => (World.frozen?_of_block (hE6.block T hT5)).trans (HCZ.out i), ?_, ?_, HLR5.out.ext hE6, HB5B.out.trans (hE6.mono (by omega)), by have := hE6.size; omega⟩
        · rw [HTS.out]; exact HB5.out.ext hE6
        · rw [HAS.out]
          refine ⟨vs ++ [.slice a3 z.length c3], hparts.1, hparts.2.1.reads, .inr h6T, fun i u l hu hl => ?_⟩
          by_cases hi : i < vs.length
          · rw [List.getElem?_append_left hi] at hu
            rw [List.getElem?_append_left (by omega)] at hl
            exact HELS.out i u l hu hl
          · rw [List.getElem?_append_right (by omega)] at hu
            rw [List.getElem?_append_right (by omega)] at hl
            have e : i - vs.length = 0 := by have := (List.getElem?_eq_some_iff.1 hu).1; simp at this; omega
            rw [← hvl] at e
            rw [e] at hl
            rw [← hvl, e] at hu
            simp at hu hl
            subst hu; subst hl
            exact .inr fun e => by have := H3LT.out _ e; omega
      case measure => simp [intOf]; omega
    · have hkk : k = mm.length ∨ k = 8 := by omega
      have hgall : ∀ zs ∈ rs ++ recs mm k, Good zs := fun zs hz => by
        rcases List.mem_append.1 hz with h | h
        · exact HG.out zs h
        · exact recs_good mm k zs h
      have hpb := pk_bd keep 200 (by omega)
      obtain ⟨kp, hkp⟩ : ∃ kp : Nat, pk keep 200 = kp := ⟨(pk keep 200).toNat, by omega⟩
      obtain ⟨n, hn⟩ : ∃ n, n = bs.length + min kp ((tapeB (rs ++ recs mm k)).length - bs.length) := ⟨_, rfl⟩
      obtain ⟨j, hj1, hj2, hj3, hj4, hj5⟩ := torn_keeps rs (recs mm k) hgall n (by rw [HBS.out]; omega) (by omega)
      have hg2 : ∀ zs ∈ (rs ++ recs mm k).take j, Good zs := fun zs hz => hgall zs (List.mem_of_mem_take hz)
      have hrd2 := readL_tape _ hg2
      have hz12 : (recL last).length ≤ 12 := by rw [recL_len]; omega
      have hgz := good_rec last
      have hg3 : ∀ zs ∈ (rs ++ recs mm k).take j ++ [recL last], Good zs := fun zs hz => by
        rcases List.mem_append.1 hz with h | h
        · exact hg2 zs h
        · simp only [List.mem_singleton] at h; subst h; exact hgz
      have hrd3 := readL_tape _ hg3
      rw [tapeB_snoc] at hrd3
      have hjl : ((rs ++ recs mm k).take j).length = j := by rw [List.length_take]; omega
      have HPK := Lib.hid fun wx => still_of (picked_any keep 200 wx hk1 hk2 (by omega) (by omega))
      rw [hkp] at HPK
      have hkp2 : kp ≤ 1000000 := by omega
      have HZB := Lib.hid hgz.2
      have HRD1 := Lib.hid hj3
      have HD2 := Lib.hid hj4
      have HRD2 := Lib.hid hrd2
      have HRD3 := Lib.hid hrd3
      have HN := Lib.hid hn
      have HJL := Lib.hid hjl
      have HLA2 := Lib.hid (HLA.out.ext hEw)
      have HEW := Lib.hid hEw
      have HB := Lib.hid hB
      have HLX := Lib.hid hLx
      have HLR := Lib.hid hLr
      have HBEL := Lib.hid hbel
      have hnD : n ≤ (tapeB (rs ++ recs mm k)).length := by omega
      have hnb : bs.length ≤ n := by omega
      clear hgall hpb hkp hj3 hj4 hg2 hrd2 hg3 hrd3 hgz hn hjl hEw hrd hB hLx hLr hbel hk1 hk2
      generalize hDe : tapeB (rs ++ recs mm k) = D at *
      generalize rs ++ recs mm k = all at *
      generalize tapeB (all.take j) = D2 at *
      generalize hze : recL last = z at *
      have HZE := Lib.hid hze
      clear hze
      clear hDe
      have tz0 := tz 0
      have tz1 := tz 1
      obtain ⟨d1, hd1⟩ : ∃ d1, D.take n = d1 := ⟨_, rfl⟩
      have hd1l : d1.length = n := by rw [← hd1, List.length_take]; omega
      rw [hd1] at HRD1 HD2
      have HD1L := Lib.hid hd1l
      clear hd1l
      have HDN := Lib.hid hd1
      have HD3L := Lib.hid (show D2.length ≤ (D2 ++ recB z).length ∧ (D2 ++ recB z).length ≤ 1048576 by rw [List.length_append, recB_len]; omega)
      clear hd1
      rcases hkk with rfl | rfl
      all_goals
        go_wp2_with fail
        all_goals
          go_region_with (first
            | (go_at_call 11
               refine (HPK.out _).mono ?_
               rintro e wq ⟨rfl, rfl⟩)
            | (go_at_call 18
               refine (crash_any (.slice avd D.length cvd) D bs.length kp n _ (HB.out.1.ext (Below.drew (Ext.refl _))) (by omega) (by omega) hkp2 HN.out).mono ?_
               rintro e w2 ⟨v2, rfl, hB2, hE2, hblk⟩
               rw [HDN.out] at hB2
               have hE2' : Ext wr w2 := Ext.trans (Below.drew (Ext.refl wr)) hE2
               obtain ⟨a2, c2, rfl, hr2⟩ := hB2
               have y0 := cell_later hE2' t0
               have y1 := cell_later hE2' t1
               have yz : ∀ i, w2.frozen? ⟨T, i, none⟩ = false := fun i => (World.frozen?_of_block (hE2'.block T hTs)).trans (tz i)
               have yz0 := yz 0
               have yz1 := yz 1
               have hB3 := ((show OffB w2 T (.slice a2 d1.length c2) d1 from ⟨⟨_, _, rfl, hr2⟩, .inr (fun e => by have := hblk _ e; have h : wr.drew.heap.size = wr.heap.size := rfl; omega)⟩).set 0 (.slice a2 d1.length c2)).set 1 (.int .i64 (n : Int))
               have hX3 := ((HLX.out.ext hE2').set 0 (.slice a2 d1.length c2)).set 1 (.int .i64 (n : Int))
               have hb3 := ((HBEL.out.trans (hE2'.mono (by omega))).setCell (p := ⟨T, 0, none⟩) (Nat.le_refl _) (.slice a2 d1.length c2)).setCell (p := ⟨T, 1, none⟩) (Nat.le_refl _) (.int .i64 (n : Int))
               have c30 : ((w2.setCell ⟨T, 0, none⟩ (.slice a2 d1.length c2)).setCell ⟨T, 1, none⟩ (.int .i64 (n : Int))).cell? ⟨T, 0, none⟩ = some (.slice a2 d1.length c2) := cellN (cellS y0) (by omega)
               have c31 : ((w2.setCell ⟨T, 0, none⟩ (.slice a2 d1.length c2)).setCell ⟨T, 1, none⟩ (.int .i64 (n : Int))).cell? ⟨T, 1, none⟩ = some (.int .i64 (n : Int)) := cellS (cellN y1 (by omega))
               have cz3 : ∀ i, ((w2.setCell ⟨T, 0, none⟩ (.slice a2 d1.length c2)).setCell ⟨T, 1, none⟩ (.int .i64 (n : Int))).frozen? ⟨T, i, none⟩ = false := fun i => by rw [World.frozen?_setCell, World.frozen?_setCell]; exact yz i
               have hs3 : T < ((w2.setCell ⟨T, 0, none⟩ (.slice a2 d1.length c2)).setCell ⟨T, 1, none⟩ (.int .i64 (n : Int))).heap.size := by have := hE2'.size; simp; omega
               have HC30 := Lib.hid c30
               have HC31 := Lib.hid c31
               have HCZ3 := Lib.hid cz3
               have HB3 := Lib.hid hB3
               have HX3 := Lib.hid hX3
               have HBL3 := Lib.hid hb3
               have HS3 := Lib.hid hs3))
          all_goals
            clear hE2 hE2' hblk hr2 hB3 hX3 hb3 c30 c31 cz3 hs3 yz t0 t1 tz tz0 tz1 HB HLX HLR HBEL hTs
            go_wp2_with fail
            generalize (w2.setCell ⟨T, 0, none⟩ (.slice a2 d1.length c2)).setCell ⟨T, 1, none⟩ (.int .i64 (n : Int)) = W3 at *
            have hrp := repair_any (.slice a2 d1.length c2) d1 n W3 HB3.out.1 (by have := HD1L.out; omega) (by have := HD1L.out; omega) D2.length D2 (by rw [HRD1.out]) HD2.out
            rw [Nat.min_eq_right hj5] at hrp
            clear y0 y1 yz0 yz1
            refine hrp.mono ?_
            clear hrp
            rintro e w4 ⟨v4, rfl, hown4, hE4⟩
            obtain ⟨a4, c4, rfl, hr4⟩ := hown4.row
            have y0 := cell_later hE4 HC30.out
            have y1 := cell_later hE4 HC31.out
            have yz : ∀ i, w4.frozen? ⟨T, i, none⟩ = false := fun i => (World.frozen?_of_block (hE4.block T HS3.out)).trans (HCZ3.out i)
            have yz0 := yz 0
            have yz1 := yz 1
            have hB5 := ((show OffB w4 T (.slice a4 D2.length c4) D2 from ⟨⟨_, _, rfl, hr4⟩, .inr (fun e => by have := (hown4.lt _ e).1; have := HS3.out; omega)⟩).set 0 (.slice a4 D2.length c4)).set 1 (.int .i64 (D2.length : Int))
            have hX5 := ((HX3.out.ext hE4).set 0 (.slice a4 D2.length c4)).set 1 (.int .i64 (D2.length : Int))
            have hb5 := ((HBL3.out.trans (hE4.mono (by have := HS3.out; omega))).setCell (p := ⟨T, 0, none⟩) (Nat.le_refl _) (.slice a4 D2.length c4)).setCell (p := ⟨T, 1, none⟩) (Nat.le_refl _) (.int .i64 (D2.length : Int))
            have c50 : ((w4.setCell ⟨T, 0, none⟩ (.slice a4 D2.length c4)).setCell ⟨T, 1, none⟩ (.int .i64 (D2.length : Int))).cell? ⟨T, 0, none⟩ = some (.slice a4 D2.length c4) := cellN (cellS y0) (by omega)
            have c51 : ((w4.setCell ⟨T, 0, none⟩ (.slice a4 D2.length c4)).setCell ⟨T, 1, none⟩ (.int .i64 (D2.length : Int))).cell? ⟨T, 1, none⟩ = some (.int .i64 (D2.length : Int)) := cellS (cellN y1 (by omega))
            have cz5 : ∀ i, ((w4.setCell ⟨T, 0, none⟩ (.slice a4 D2.length c4)).setCell ⟨T, 1, none⟩ (.int .i64 (D2.length : Int))).frozen? ⟨T, i, none⟩ = false := fun i => by rw [World.frozen?_setCell, World.frozen?_setCell]; exact yz i
            have hs5 : T < ((w4.setCell ⟨T, 0, none⟩ (.slice a4 D2.length c4)).setCell ⟨T, 1, none⟩ (.int .i64 (D2.length : Int))).heap.size := by have := hE4.size; have := HS3.out; simp; omega
            have HC50 := Lib.hid c50
            have HC51 := Lib.hid c51
            have HCZ5 := Lib.hid cz5
            have HB5 := Lib.hid hB5
            have HX5 := Lib.hid hX5
            have HBL5 := Lib.hid hb5
            have HS5 := Lib.hid hs5
            clear hown4 hr4 hE4 hB5 hX5 hb5 c50 c51 cz5 hs5 yz HC30 HC31 HCZ3 HB3 HX3 HBL3 HS3
            go_wp2_with fail
            generalize (w4.setCell ⟨T, 0, none⟩ (.slice a4 D2.length c4)).setCell ⟨T, 1, none⟩ (.int .i64 (D2.length : Int)) = W5 at *
            have hre := read_any (.slice a4 D2.length c4) D2 (D2.length : Int) W5 HB5.out.1 (by omega) (by omega) (by omega)
            rw [HRD2.out] at hre
            clear y0 y1 yz0 yz1
            refine hre.mono ?_
            clear hre
            rintro e w6 ⟨v6, rfl, hL6, hE6⟩
            obtain ⟨a6, c6, rfl⟩ : ∃ a c, v6 = .slice a j c := by
              obtain ⟨vs, he, a, c, rfl, _⟩ := hL6.lists
              exact ⟨a, c, by rw [HJL.out]⟩
            have y0 := cell_later hE6 HC50.out
            have y1 := cell_later hE6 HC51.out
            have yz : ∀ i, w6.frozen? ⟨T, i, none⟩ = false := fun i => (World.frozen?_of_block (hE6.block T HS5.out)).trans (HCZ5.out i)
            have hs6 : T < w6.heap.size := by have := hE6.size; have := HS5.out; omega
            have hcx : all.length ≤ cx := (HX5.out.lists.cells).2.1
            have HSL := Lib.hid (sameLists_any _ _ (all.take j) w6 hL6.lists ((HX5.out.lists.ext hE6).take j hj2))
            have HYZ := Lib.hid yz
            have HL6 := Lib.hid hL6
            have HB6 := Lib.hid (HB5.out.ext hE6)
            have HBL6 := Lib.hid (HBL5.out.trans (hE6.mono (by have := HS5.out; omega)))
            have HS56 := Lib.hid (show T < W5.heap.size from HS5.out)
            clear hL6 hE6 yz HC50 HC51 HCZ5 HX5 HB5 HBL5
            go_wp2_with fail
            refine HSL.out.mono ?_
            rintro e w7 ⟨rfl, m7, rfl⟩
            go_wp2_with fail
            have hEw7 : Ext w (w6.drewN m7) := below_drewN (Below.trans HE1.out (HBL6.out.mono (by have := HE1.out.size; have := hTe.out; omega))) _
            have hrec := record_any (.slice al last.length cl) last (w6.drewN m7) (HLA.out.ext hEw7) HI3.out
            rw [HZE.out] at hrec
            refine hrec.mono ?_
            clear hrec
            rintro e w8 ⟨v8, rfl, hown8, hE8⟩
            obtain ⟨a8, c8, rfl, hr8⟩ := hown8.row
            have hI8 : Ints w8 (.slice a8 z.length c8) z := ⟨_, _, rfl, hr8⟩
            have hE68 : Ext w6 w8 := Ext.trans (below_drewN (Ext.refl w6) m7) hE8
            have y08 := cell_later hE68 y0
            have y18 := cell_later hE68 y1
            have hs8 : T < w8.heap.size := by have := hE68.size; omega
            have yz8 : ∀ i, w8.frozen? ⟨T, i, none⟩ = false := fun i => (World.frozen?_of_block (hE68.block T hs6)).trans (HYZ.out i)
            have HWR := Lib.hid (write_own (.slice a4 D2.length c4) (.slice a8 z.length c8) D2 (D2.length : Int) z w8 (HB6.out.1.ext hE68) hI8 (by omega) (by omega) (by omega) (by omega) HZB.out)
            have HI8 := Lib.hid hI8
            have HE8 := Lib.hid hE68
            have h8lo : ∀ b, (Value.slice a8 z.length c8).ownBlock = some b → T < b := fun b hb => by have := (hown8.lt b hb).1; have h : (w6.drewN m7).heap.size = w6.heap.size := rfl; omega
            have H8LO := Lib.hid h8lo
            have HYZ8 := Lib.hid yz8
            clear hown8 hr8 hE8 hE68 hI8 h8lo yz8 y0 y1
            go_wp2_with fail
            refine HWR.out.mono ?_
            rintro e w9 ⟨v9, rfl, hown9, hE9⟩
            have hrd3 := HRD3.out
            generalize D2 ++ recB z = D3 at *
            obtain ⟨a9, c9, rfl, hr9⟩ := hown9.row
            have y0 := cell_later hE9 y08
            have y1 := cell_later hE9 y18
            have hs9 : T < w9.heap.size := by have := hE9.size; omega
            have yz : ∀ i, w9.frozen? ⟨T, i, none⟩ = false := fun i => (World.frozen?_of_block (hE9.block T hs8)).trans (HYZ8.out i)
            have yz0 := yz 0
            have yz1 := yz 1
            have hE69 : Ext w6 w9 := HE8.out.trans hE9
            have hG6 : OffL w6 T (.slice a6 j c6) (all.take j) := by
              obtain ⟨vs, k1, k2, _, k4⟩ := HL6.out
              exact ⟨vs, k1, k2.reads, .inr (fun e => by have := (k2.lt _ e).1; have := HS56.out; omega), fun i u l hu hl => .inr (fun e => by have := k4 u (List.mem_of_getElem? hu) _ e; have := HS56.out; omega)⟩
            have hG10 := ((hG6.ext hE69).set 0 (.slice a9 D3.length c9)).set 1 (.int .i64 (D2.length : Int))
            have hI10 := ((show OffI w9 T (.slice a8 z.length c8) z from ⟨HI8.out.ext hE9, .inr (fun e => by have := H8LO.out _ e; omega)⟩).set 0 (.slice a9 D3.length c9)).set 1 (.int .i64 (D2.length : Int))
            have hB10 := ((show OffB w9 T (.slice a9 D3.length c9) D3 from ⟨⟨_, _, rfl, hr9⟩, .inr (fun e => by have := (hown9.lt _ e).1; omega)⟩).set 0 (.slice a9 D3.length c9)).set 1 (.int .i64 (D2.length : Int))
            have hb10 := ((HBL6.out.trans (hE69.mono (by omega))).setCell (p := ⟨T, 0, none⟩) (Nat.le_refl _) (.slice a9 D3.length c9)).setCell (p := ⟨T, 1, none⟩) (Nat.le_refl _) (.int .i64 (D2.length : Int))
            have hs10 : T ≤ ((w9.setCell ⟨T, 0, none⟩ (.slice a9 D3.length c9)).setCell ⟨T, 1, none⟩ (.int .i64 (D2.length : Int))).heap.size := by simp; omega
            have hd3 : D2.length ≤ D3.length ∧ D3.length ≤ 1048576 := HD3L.out
            have HG10 := Lib.hid hG10
            have HI10 := Lib.hid hI10
            have HB10 := Lib.hid hB10
            have HBL10 := Lib.hid hb10
            have HS10 := Lib.hid hs10
            have HR3 := Lib.hid hrd3
            clear hown9 hr9 hE9 hE69 hG6 hG10 hI10 hB10 hb10 hs10 yz y08 y18 hrd3 HWR
            go_wp2_with fail
            generalize (w9.setCell ⟨T, 0, none⟩ (.slice a9 D3.length c9)).setCell ⟨T, 1, none⟩ (.int .i64 (D2.length : Int)) = W10 at *
            have hre := read_any (.slice a9 D3.length c9) D3 (D2.length : Int) W10 HB10.out.1 hd3.2 (by omega) (by omega)
            rw [HR3.out] at hre
            replace hre : Calls Try.prog 15 #[.agg #[.slice a9 D3.length c9, .int .i64 (D2.length : Int)]] W10 fun e w' => ∃ v, e = .returned (.tuple #[v, .int .i64 (D3.length : Int), .int .i64 0]) ∧ LowL w' W10.heap.size v (all.take j ++ [z]) ∧ Ext W10 w' := hre
            refine hre.mono ?_
            clear hre y0 y1 yz0 yz1
            rintro e w11 ⟨v11, rfl, hL11, hE11⟩
            dsimp only
            obtain ⟨a11, c11, rfl⟩ : ∃ a c, v11 = .slice a (j + 1) c := by
              obtain ⟨vs, he, a, c, rfl, _⟩ := hL11.lists
              exact ⟨a, c, by rw [List.length_append, HJL.out]; rfl⟩
            obtain ⟨_, hc11, _, b11, o11, ha11, hcc11⟩ := hL11.lists.cells
            obtain rfl := ha11 (by omega)
            obtain ⟨aj, cj, hcj, hIj⟩ := hcc11 j (by rw [List.length_append, HJL.out]; simp)
            have hgj : (all.take j ++ [z])[j]'(by rw [List.length_append, HJL.out]; simp) = z := by
              rw [List.getElem_append_right (by rw [HJL.out]; exact Nat.le_refl _)]
              simp
            rw [hgj] at hcj hIj
            have htk : (all.take j ++ [z]).take j = all.take j := by
              rw [List.take_append_of_le_length (by rw [HJL.out]; exact Nat.le_refl _), List.take_of_length_le (by rw [HJL.out]; exact Nat.le_refl _)]
            have hLt := hL11.lists.take j (by omega)
            rw [htk] at hLt
            have HS1 := Lib.hid (sameLists_any _ _ (all.take j) w11 hLt (HG10.out.lists.ext hE11))
            have HS2 := Lib.hid fun m => sameInts_any _ _ z (w11.drewN m) (hIj.ext (below_drewN (Ext.refl _) m)) ((HI10.out.1.ext hE11).ext (below_drewN (Ext.refl _) m))
            have HEF := Lib.hid (Below.trans HE1.out ((HBL10.out.trans (hE11.mono HS10.out)).mono (by have := HE1.out.size; have := hTe.out; omega)))
            clear hL11 hE11 ha11 hcc11 hIj hgj htk hLt
            generalize hn11 : j + 1 = n11 at *
            have HN11 := Lib.hid hn11
            clear hn11
            have htest : ((n11 : Int) == (j : Int) + 1) = true := by have := HN11.out; simp; omega
            have hj11 : j < n11 := by have := HN11.out; omega
            go_wp2_with fail
            refine HS1.out.mono ?_
            rintro e w12 ⟨rfl, m12, rfl⟩
            go_wp2_with fail
            refine (HS2.out _).mono ?_
            rintro e w13 ⟨rfl, m13, rfl⟩
            go_wp2
            go_ret
            first | exact ⟨rfl, below_drewN HEF.out _⟩ | exact ⟨rfl, below_drewN (below_drewN HEF.out _) _⟩ | exact ⟨rfl, Below.drew (below_drewN HEF.out _)⟩

end Go.Proofs.Ytngcbfefhlheoaa
