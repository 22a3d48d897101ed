/- The law StoreGrows. -/
import Derived.Test.YtmacgcaehfjoiaaStN
import Derived.Deep.DeepCutAuto
import Derived.Deep.RegionLaw
namespace Go.Proofs.Ytmacgcaehfjoiaa
open Go.RowKit

theorem tm8 (n : Nat) : (n : Int).tmod 8 = ((n % 8 : Nat) : Int) := rfl
theorem tm7 (n : Nat) : (n : Int).tmod 7 = ((n % 7 : Nat) : Int) := rfl
theorem tmN (n m : Nat) : (n : Int).tmod (m : Int) = ((n % m : Nat) : Int) := rfl

theorem ones_eq (q : Nat) : ones q = if q = 0 then 0 else q % 2 + ones (q / 2) := by
  rw [ones]
  split <;> rfl

set_option maxRecDepth 100000 in
set_option maxHeartbeats 16000000 in
theorem storeGrows_walk (n from' : Int) (W : World) (hn : I64 n) (hf : I64 from') :
    Calls Try.prog 7 #[.int .i64 n, .int .i64 from'] W fun e w' => e = .returned (.bool true) ∧ Ext W w' := by
  have HPN := Lib.hid fun wx => picked_any n 200 wx hn.1 hn.2 (by omega) (by omega)
  obtain ⟨hk1, hk2⟩ := pk_bd n 200 (by omega)
  obtain ⟨k, hk⟩ : ∃ k : Nat, pk n 200 = (k : Int) := ⟨(pk n 200).toNat, by omega⟩
  rw [hk] at HPN hk1 hk2
  have HPF := Lib.hid fun wx => picked_any from' 1000 wx hf.1 hf.2 (by omega) (by omega)
  obtain ⟨hb1, hb2⟩ := pk_bd from' 1000 (by omega)
  obtain ⟨b, hb⟩ : ∃ b, pk from' 1000 = b := ⟨_, rfl⟩
  rw [hb] at HPF hb1 hb2
  clear hk hb hn hf
  go_enter Try.func7, Try.ntmps7
  go_wp2_with fail
  refine (HPN.out _).mono ?_
  rintro e w' ⟨rfl, rfl⟩
  have HT0 := Lib.hid (blk_new W (Obj.cells #[.slice none 0 0, .slice none 0 0] 25))
  have HX0 := Lib.hid (ext_al (Ext.refl W) (Obj.cells #[.slice none 0 0, .slice none 0 0] 25))
  have HZ0 := Lib.hid (show (W.alloc (Obj.cells #[.slice none 0 0, .slice none 0 0] 25)).heap.size = W.heap.size + 1 by simp)
  clear HPN
  go_wp2_with fail
  generalize W.alloc (Obj.cells #[.slice none 0 0, .slice none 0 0] 25) = W1 at *
  have HF0 := Lib.hid (show FrSt W1 (W.heap.size + 1) (.slice none 0 0) (.slice none 0 0) ⟨[], []⟩ from ⟨⟨Reads.nil _ _, .inl rfl⟩, [], ⟨rfl, by intro i x l hx; simp at hx⟩, Reads.nil _ _, by intro b hb; simp [Value.ownBlock] at hb, by intro i x l hx; simp at hx⟩)
  obtain ⟨D, hD⟩ : ∃ D, W.heap.size = D := ⟨_, rfl⟩
  rw [hD] at HT0 HZ0 HF0
  rw [hD]
  have HDD := Lib.hid hD
  clear hD
  go_loopg [7] k (fun g x wr => ∃ (i : Nat) (t : St) (lt rt : Value), g + i = k ∧ x = .int .i64 (i : Int) ∧ wr.heap[D]? = some (.cells #[lt, rt] 25 (0, 0)) ∧ FrSt wr (D + 1) lt rt t ∧ Stk t (riseL b i) ∧ Ext W wr ∧ D + 1 ≤ wr.heap.size)
  case atStart => exact ⟨0, ⟨[], []⟩, _, _, by omega, by go_num, HT0.out, HF0.out, by simpa [riseL] using Stk.nil, HX0.out, by rw [HZ0.out]; exact Nat.le_refl _⟩
  case round =>
    obtain ⟨i, t, lt, rt, hgi, rfl, hT1, hF, hSt, hE, hsz⟩ := hrel
    obtain ⟨a4, c4, a5, c5, rfl, rfl⟩ := hF.st.val
    have HGI := Lib.hid hgi
    have HT1 := Lib.hid hT1
    have HF := Lib.hid hF
    have HSTT := Lib.hid hSt
    have HEE := Lib.hid hE
    have hti : t.keys.length = i := by rw [hSt.len, riseL_len]
    have hOk := hSt.ok
    have t0 := blk_cell hT1 (i := 0) rfl
    have t1 := blk_cell hT1 (i := 1) rfl
    clear hgi hT1 hF hSt hE
    by_cases hi : i < k
    · have HAD := Lib.hid fun wx (hx : Ext wr wx) => add_st _ _ t (b + (i : Int)) wx (HF.out.st.ext hx) hOk (by omega) (by omega)
      have HFR := Lib.hid (show decide (b + (i : Int) ∉ t.keys) = true by rw [decide_eq_true_eq, HSTT.out.mem]; exact riseL_new b i)
      have HTA := Lib.hid (show Stk (t.add (b + (i : Int))) (riseL b (i + 1)) from by
        rw [riseL_succ]
        exact HSTT.out.fresh (riseL_new b i) (by omega))
      rw [HFR.out] at HAD
      have hiI : (i : Int) < (k : Int) := by omega
      obtain ⟨key, hkey⟩ : ∃ key, b + (i : Int) = key := ⟨_, rfl⟩
      have v1 : IntKind.i64.wrap (b + (i : Int)) = key := (IntWalk.i64_in _ (by omega)).trans hkey
      rw [hkey] at HAD HTA
      clear hkey HFR
      generalize t.add key = t2 at *
      have t02 := cell_later (ext_al (Ext.refl wr) (Obj.cells #[.slice none 0 0, .slice none 0 0] 25)) t0
      have t12 := cell_later (ext_al (Ext.refl wr) (Obj.cells #[.slice none 0 0, .slice none 0 0] 25)) t1
      obtain ⟨x4, hx4⟩ : ∃ x, t.loose.length = x := ⟨_, rfl⟩
      obtain ⟨x5, hx5⟩ : ∃ x, t.runs.length = x := ⟨_, rfl⟩
      rw [hx4] at t0 t02 HAD HT1
      rw [hx5] at t1 t12 HAD HT1
      clear hx4 hx5 hOk
      go_upto_region 6 with fail
      go_cut [8, 9, 10] (fun s11 s12 s13 wx => s12 = .bool true ∧ s13 = .int .i64 0 ∧ ∃ (Q : Nat) (l2 r2 : Value), s11 = .pointer (some ⟨Q, 0, none⟩) ∧ NewSt wr l2 r2 t2 Q wx)
      case first =>
        go_region_law (first
          | (go_simp
             go_at_call 11
             refine (HPF.out _).mono ?_
             rintro e wq ⟨rfl, rfl⟩)
          | (go_simp
             go_at_call 10
             refine (HAD.out _ (by first | exact Below.drew (Ext.refl _) | exact ext_al (Below.drew (Ext.refl _)) _ | exact Below.drew (ext_al (Ext.refl _) _))).mono ?_
             rintro e w5 ⟨l2, r2, rfl, hS5, hE5⟩
             obtain ⟨a2, c2, a3, c3, rfl, rfl⟩ := hS5.st.val
             first
               | (have hb2 : w5.heap[wr.heap.size]? = some (.cells #[.slice none 0 0, .slice none 0 0] 25 (0, 0)) := by
                    first
                      | exact blk_ext (blk_new wr _) hE5
                      | exact blk_ext (blk_new wr.drew _) hE5
                      | exact blk_ext (blk_new wr _) (Ext.trans (Below.drew (Ext.refl _)) hE5)
                  have hEX : Ext wr w5 := by
                    first
                      | exact Ext.trans (ext_al (Ext.refl _) _) hE5
                      | exact Ext.trans (ext_al (Below.drew (Ext.refl _)) _) hE5
                      | exact Ext.trans (Below.drew (ext_al (Ext.refl _) _)) hE5
                  have r5 := blk_cell hb2 (i := 0) rfl
                  have g5 := blk_free hb2 0
                  have hRa := blk_set (i := 0) hb2 (.slice a2 t2.loose.length c2)
                  rw [(set2 _ _ _).1] at hRa
                  have r6 := blk_cell hRa (i := 1) rfl
                  have g6 := blk_free hRa 1
                  have hws : wr.heap.size < w5.heap.size := blk_lt hb2
                  have HFIN := Lib.hid (show NewSt wr (.slice a2 t2.loose.length c2) (.slice a3 t2.runs.length c3) t2 wr.heap.size ((w5.setCell ⟨wr.heap.size, 0, none⟩ (.slice a2 t2.loose.length c2)).setCell ⟨wr.heap.size, 1, none⟩ (.slice a3 t2.runs.length c3)) from
                    ⟨by have h := blk_set (i := 1) hRa (.slice a3 t2.runs.length c3); rw [(set2 _ _ _).2] at h; exact h,
                     FrSt.down (base := wr.heap.size + 1) (((hS5.down (by first | exact Nat.le_refl _ | simp)).set (p := ⟨wr.heap.size, 0, none⟩) (Nat.lt_succ_self _) _).set (p := ⟨wr.heap.size, 1, none⟩) (Nat.lt_succ_self _) _) (Nat.le_succ _),
                     ext_st (ext_st hEX (Nat.le_refl _) _) (Nat.le_refl _) _⟩)
                  clear hE5 hb2 hEX hRa hws)
               | (have hEX : Ext wr w5 := by
                    first
                      | exact hE5
                      | exact Ext.trans (Below.drew (Ext.refl _)) hE5
                  have HFIN := Lib.hid (show NewSt wr (.slice a2 t2.loose.length c2) (.slice a3 t2.runs.length c3) t2 w5.heap.size (w5.alloc (Obj.cells #[(.slice a2 t2.loose.length c2), (.slice a3 t2.runs.length c3)] 25)) from
                    ⟨blk_new _ _, (hS5.down (by first | exact Nat.le_refl _ | (simp; done))).ext (ext_al (Ext.refl _) _), ext_al hEX _⟩)
                  clear hE5 hEX)))
        all_goals
          go_wp2_with fail
          go_meet
          exact ⟨rfl, rfl, _, _, _, rfl, HFIN.out⟩
      case rest =>
        obtain ⟨rfl, rfl, Q, l2, r2, rfl, hN⟩ := hcut
        obtain ⟨a2, c2, a3, c3, rfl, rfl⟩ := hN.s.st.val
        obtain ⟨y2, hy2⟩ : ∃ x, t2.loose.length = x := ⟨_, rfl⟩
        obtain ⟨y3, hy3⟩ : ∃ x, t2.runs.length = x := ⟨_, rfl⟩
        rw [hy2, hy3] at hN
        clear hy2 hy3 HAD t02 t12 t0 t1
        have q0 := blk_cell hN.b (i := 0) rfl
        have q1 := blk_cell hN.b (i := 1) rfl
        have hTc := blk_ext HT1.out hN.e
        have t0 := blk_cell hTc (i := 0) rfl
        have g0 := blk_free hTc 0
        have hTa := blk_set (i := 0) hTc (.slice a2 y2 c2)
        rw [(set2 _ _ _).1] at hTa
        have t1 := blk_cell hTa (i := 1) rfl
        have g1 := blk_free hTa 1
        have hTb := blk_set (i := 1) hTa (.slice a3 y3 c3)
        rw [(set2 _ _ _).2] at hTb
        have HTB := Lib.hid hTb
        have HFB := Lib.hid ((hN.s.set (p := ⟨D, 0, none⟩) (by show D < wr.heap.size; omega) (.slice a2 y2 c2)).set (p := ⟨D, 1, none⟩) (by show D < wr.heap.size; omega) (.slice a3 y3 c3))
        have HXB := Lib.hid (ext_st (ext_st (HEE.out.trans hN.e) (p := ⟨D, 0, none⟩) (by show W.heap.size ≤ D; have := HDD.out; omega) (.slice a2 y2 c2)) (p := ⟨D, 1, none⟩) (by show W.heap.size ≤ D; have := HDD.out; omega) (.slice a3 y3 c3))
        have HZS := Lib.hid (show D + 1 ≤ ((wc.setCell ⟨D, 0, none⟩ (.slice a2 y2 c2)).setCell ⟨D, 1, none⟩ (.slice a3 y3 c3)).heap.size by have := hN.e.size; simp; omega)
        clear hTa hTb hTc hN
        go_wp2_with fail
        go_roundg (gk - 1)
        case measure => have := HGI.out; omega
        case rel => exact ⟨i + 1, t2, _, _, by have := HGI.out; omega, by go_num, HTB.out, HFB.out.down (by omega), HTA.out, HXB.out, HZS.out⟩
    · obtain rfl : i = k := by have := HGI.out; omega
      have hiI : ¬ (i : Int) < (i : Int) := by omega
      have HON := Lib.hid (show t.runs.length = ones (i / 8) from by
        have := HSTT.out.ok.runs_ones
        rw [hti] at this
        exact this)
      have HAT := Lib.hid fun wx (hx : Ext wr wx) => all_st _ _ t wx (HF.out.st.ext hx) hOk (by omega)
      rw [HSTT.out.sort, riseL_sort] at HAT
      have v1 : ((i : Int).tdiv 8) = ((i / 8 : Nat) : Int) := rfl
      have v2 : ((i / 8 : Nat) : Int) = (i : Int) / 8 := by omega
      have HONE := Lib.hid (ones_eq)
      have HQ := Lib.hid v2
      have HI8 := Lib.hid (show 0 + ones (i / 8) = ones (i / 8) by omega)
      clear v2
      go_wp2_with fail
      obtain ⟨wo, rfl⟩ : ∃ wo : World, wo = wr := ⟨_, rfl⟩
      obtain ⟨G0, rfl⟩ : ∃ G0 : Nat, G0 = gk := ⟨_, rfl⟩
      go_loopg [12, 11] (i / 8) (fun g x y wq => ∃ (q a : Nat), x = .int .i64 (q : Int) ∧ y = .int .i64 (a : Int) ∧ a + ones q = ones (i / 8) ∧ q ≤ 1000 ∧ a ≤ 1000 - q ∧ q = g ∧ wo = wq)
      case atStart => exact ⟨i / 8, 0, by rw [HQ.out], rfl, HI8.out, by omega, by omega, rfl, rfl⟩
      case round =>
        obtain ⟨q, a, rfl, rfl, hao, hq1, ha1, hqg, rfl⟩ := hrel
        have HAO := Lib.hid hao
        have HQG := Lib.hid hqg
        clear hao hqg
        by_cases hq : q = 0
        · have hqI : ¬ (0 : Int) < (q : Int) := by omega
          have hq2 : ¬ 0 < q := by omega
          have HRA := Lib.hid (show t.runs.length = a by
            have h1 := HAO.out
            rw [hq] at h1
            have h2 := HONE.out 0
            rw [if_pos rfl] at h2
            rw [HON.out]; omega)
          obtain ⟨x4, hx4⟩ : ∃ x, t.loose.length = x := ⟨_, rfl⟩
          rw [hx4] at t0 HAT
          rw [HRA.out] at t1 HAT
          clear hx4 hq
          go_wp2_with fail
          refine (HAT.out _ (Ext.refl _)).mono ?_
          rintro e w5 ⟨v5, rfl, hI5, hE5⟩
          obtain ⟨a6, c6, rfl, hr6⟩ := id hI5
          have t1 := cell_later hE5 t1
          have HEF := Lib.hid (HEE.out.trans hE5)
          obtain ⟨b6, o6, q1, q2⟩ := ints_at' hr6
          have HPQ := Lib.hid fun (m : Nat) => (show Calls Try.prog 11 #[.int .i64 from', .int .i64 1000] (w5.drewN m) fun e w' => e = .returned (.int .i64 b) ∧ ∃ j, w' = (w5.drewN m).drewN j from (HPF.out _).mono fun e w' h => ⟨h.1, 0, h.2.symm⟩)
          by_cases h0 : i = 0
          · have z1 : ((i : Int) == 0) = true := by rw [beq_iff_eq]; omega
            rw [riseL_len]
            clear h0 hI5 hE5 hr6 q1 q2 t0
            go_upto_region 16 with fail
            go_quiet ((go_at_call 11; exact (HPQ.out _).mono (fun _ _ hz => ⟨hz.1, drew_more hz.2⟩)))
            go_wp2_with fail
            go_ret
            exact ⟨rfl, below_drewN HEF.out _⟩
          · have z1 : ((i : Int) == 0) = false := by rw [beq_eq_false_iff_ne]; omega
            rw [riseL_len] at q1 ⊢
            obtain rfl := q1 (by omega)
            have k1 := q2 0 (by rw [riseL_len]; omega)
            have k2 := q2 (i - 1) (by rw [riseL_len]; omega)
            rw [riseL_at] at k1 k2
            obtain ⟨j, hj⟩ : ∃ j, i - 1 = j := ⟨_, rfl⟩
            rw [hj] at k2
            have k1' : w5.cell? ⟨b6, o6, none⟩ = some (.int .i64 b) := by simpa using k1
            have j1 : IntKind.i64.wrap ((i : Int) - 1) = (j : Int) := (IntWalk.i64_in _ (by omega)).trans (by omega)
            have j2 : IntKind.i64.wrap (b + (i : Int)) = b + (i : Int) := IntWalk.i64_in _ (by omega)
            have j3 : IntKind.i64.wrap (b + (i : Int) - 1) = b + (j : Int) := (IntWalk.i64_in _ (by omega)).trans (by omega)
            have j4 : (j : Int) < (i : Int) := by omega
            have j5 : (0 : Int) ≤ (j : Int) := by omega
            have j6 : (0 : Int) < (i : Int) := by omega
            clear h0 hI5 hE5 hr6 q1 q2 t0 k1 hj
            go_upto_region 16 with fail
            go_quiet ((go_at_call 11; exact (HPQ.out _).mono (fun _ _ hz => ⟨hz.1, drew_more hz.2⟩)))
            go_wp2_with fail
            go_ret
            exact ⟨rfl, below_drewN HEF.out _⟩
        · have hqI : (0 : Int) < (q : Int) := by omega
          have hq2 : 0 < q := by omega
          have HO2 := Lib.hid (show a + q % 2 + ones (q / 2) = ones (i / 8) by
            have h1 := HAO.out
            have h2 := HONE.out q
            rw [if_neg hq] at h2
            omega)
          have t2 : (q : Int).tmod 2 = ((q % 2 : Nat) : Int) := rfl
          have t3 : IntKind.i64.wrap ((a : Int) + ((q % 2 : Nat) : Int)) = ((a + q % 2 : Nat) : Int) := (IntWalk.i64_in _ (by omega)).trans (by omega)
          have t4 : (q : Int).tdiv 2 = ((q / 2 : Nat) : Int) := rfl
          have HA1 := Lib.hid (show a + q % 2 ≤ 1000 - q / 2 by omega)
          have HQ2 := Lib.hid (show q / 2 < gk by have := HQG.out; omega)
          obtain ⟨m2, hm2⟩ : ∃ m, q % 2 = m := ⟨_, rfl⟩
          obtain ⟨d2, hd2⟩ : ∃ m, q / 2 = m := ⟨_, rfl⟩
          rw [hm2] at t2 t3 HO2 HA1
          rw [hd2] at t4 HO2 HA1 HQ2
          have HD2 := Lib.hid (show d2 ≤ 1000 by omega)
          clear hm2 hd2 hq
          go_wp2_with fail
          go_roundg d2
          case measure => exact HQ2.out
          case rel => exact ⟨d2, a + m2, by first | rfl | exact congrArg (Value.int .i64) (IntWalk.wrap64_in _ (by have := HD2.out; omega)), by first | rfl | exact congrArg (Value.int .i64) t3 | simp, HO2.out, HD2.out, HA1.out, rfl, rfl⟩

theorem storeGrows_law (v0 v1 : Value) (W : World) (h0 : Cells Try.prog W 3 [v0]) (h1 : Cells Try.prog W 3 [v1]) :
    Calls Try.prog 7 #[v0, v1] W fun e w' => e = .returned (.bool true) ∧ Ext W w' := by
  obtain ⟨n0, e0, i0⟩ := h0.i64 Try.underlying3
  cases e0
  obtain ⟨n1, e1, i1⟩ := h1.i64 Try.underlying3
  cases e1
  exact storeGrows_walk n0 n1 W i0 i1

end Go.Proofs.Ytmacgcaehfjoiaa
