/- The law StoreTurns. -/
import Derived.Test.YtmacgcaehfjoiaaStN
import Derived.Deep.DeepCutAuto
import Derived.Deep.RegionLaw
namespace Go.Proofs.Ytmacgcaehfjoiaa
open Go.RowKit

theorem tm8 (n : Nat) : (n : Int).tmod 8 = ((n % 8 : Nat) : Int) := rfl
theorem tm7 (n : Nat) : (n : Int).tmod 7 = ((n % 7 : Nat) : Int) := rfl
theorem tmN (n m : Nat) : (n : Int).tmod (m : Int) = ((n % m : Nat) : Int) := rfl

set_option maxRecDepth 100000 in
set_option maxHeartbeats 16000000 in
theorem storeTurns_walk (v : Value) (l : List Int) (turn : Int) (W : World) (h : Ints W v l) (hI : ∀ n ∈ l, I64 n) (hturn : I64 turn) :
    Calls Try.prog 6 #[v, .int .i64 turn] W fun e w' => e = .returned (.bool true) ∧ Ext W w' := by
  have HST := Lib.hid (stocked_any v l W h hI)
  have HPK := Lib.hid fun wx => picked_any turn 100 wx hturn.1 hturn.2 (by omega) (by omega)
  obtain ⟨hc1, hc2⟩ := pk_bd turn 100 (by omega)
  obtain ⟨c, hc⟩ : ∃ c : Nat, pk turn 100 = (c : Int) := ⟨(pk turn 100).toNat, by omega⟩
  rw [hc] at HPK hc1 hc2
  clear hc hturn
  obtain ⟨aA, cA, rfl, hrA⟩ := h
  have hlA : l.length ≤ 9223372036854775807 := by have h1 := hrA.le; have h2 := hrA.max; unfold maxLen at h2; omega
  clear hrA hI
  go_enter Try.func6, Try.ntmps6
  go_wp2_with fail
  refine HST.out.mono ?_
  rintro e w1 ⟨lv, rv, kv, s, ks, rfl, hS, hKI, hK, hKb, hK1, hK0, hE1⟩
  obtain ⟨al, cl, ar, cr, rfl, rfl⟩ := hS.val
  obtain ⟨ak, ck, rfl, hrk⟩ := id hKI
  have hkc := hrk.le
  have hkm := hrk.max
  unfold maxLen at hkm
  have hx := ext_al (Ext.refl w1) (Obj.cells #[.slice al s.loose.length cl, .slice ar s.runs.length cr] 25)
  have hb := blk_new w1 (Obj.cells #[.slice al s.loose.length cl, .slice ar s.runs.length cr] 25)
  have HS0 := Lib.hid hS
  have HKI0 := Lib.hid hKI
  have HX0 := Lib.hid hE1
  have HX1 := Lib.hid hx
  have HS := Lib.hid (hS.ext hx)
  have HKI := Lib.hid (hKI.ext hx)
  have HB := Lib.hid hb
  have HX := Lib.hid (hE1.trans hx)
  have HK := Lib.hid hK
  have HKB := Lib.hid hKb
  have HK0 := Lib.hid hK0
  have d0 := blk_cell hb (i := 0) rfl
  have d1 := blk_cell hb (i := 1) rfl
  have hlen := hK.len
  have hskl := St.keys_len s
  have hfew := hK.ok.runs_few
  obtain ⟨D, hD⟩ : ∃ D, w1.heap.size = D := ⟨_, rfl⟩
  rw [hD] at HB d0 d1
  have HD := Lib.hid hD
  clear hS hKI hK hKb hK0 hE1 hx hb hrk HST
  have hx2 := ext_al (Ext.refl (w1.alloc (Obj.cells #[.slice al s.loose.length cl, .slice ar s.runs.length cr] 25))) (Obj.cells #[.slice none 0 0, .slice none 0 0] 25)
  have hb2 := blk_new (w1.alloc (Obj.cells #[.slice al s.loose.length cl, .slice ar s.runs.length cr] 25)) (Obj.cells #[.slice none 0 0, .slice none 0 0] 25)
  have e1 : (w1.alloc (Obj.cells #[.slice al s.loose.length cl, .slice ar s.runs.length cr] 25)).heap.size = D + 1 := by simp [hD]
  have e2 : ((w1.alloc (Obj.cells #[.slice al s.loose.length cl, .slice ar s.runs.length cr] 25)).alloc (Obj.cells #[.slice none 0 0, .slice none 0 0] 25)).heap.size = D + 2 := by simp [hD]
  rw [e1] at hb2
  have HB2 := Lib.hid (blk_ext HB.out hx2)
  have HX2 := Lib.hid (HX1.out.trans hx2)
  have HT2 := Lib.hid hb2
  have HZ2 := Lib.hid e2
  have HDD := Lib.hid hD
  clear d0 d1 hx2 hb2 e1 e2 HS HKI HB
  go_wp2_with fail
  generalize (w1.alloc (Obj.cells #[.slice al s.loose.length cl, .slice ar s.runs.length cr] 25)).alloc (Obj.cells #[.slice none 0 0, .slice none 0 0] 25) = W1 at *
  clear hD
  have HF0 := Lib.hid (show FrSt W1 (D + 2) (.slice none 0 0) (.slice none 0 0) ⟨[], []⟩ from ⟨⟨Reads.nil _ _, .inl rfl⟩, [], ⟨rfl, by intro i x l hx; simp at hx⟩, Reads.nil _ _, by intro b hb; simp [Value.ownBlock] at hb, by intro i x l hx; simp at hx⟩)
  obtain ⟨n, hn⟩ : ∃ n, ks.length = n := ⟨_, rfl⟩
  rw [hn] at hK1 hlen hkc
  have HN := Lib.hid hn
  rw [hn]
  clear hn
  go_loopg [10] n (fun g x wr => ∃ (i : Nat) (t : St) (lt rt : Value), g + i = n ∧ x = .int .i64 (i : Int) ∧ wr.heap[D]? = some (.cells #[.slice al s.loose.length cl, .slice ar s.runs.length cr] 25 (0, 0)) ∧ wr.heap[D + 1]? = some (.cells #[lt, rt] 25 (0, 0)) ∧ FrSt wr (D + 2) lt rt t ∧ t.Ok ∧ t.keys.length ≤ i ∧ (n % 7 ≠ 0 → Stk t (turnL ks c i)) ∧ Ext w1 wr ∧ D + 2 ≤ wr.heap.size)
  case atStart => exact ⟨0, ⟨[], []⟩, _, _, by omega, by go_num, HB2.out, HT2.out, HF0.out, St.Ok.nil, by simp [St.keys], fun _ => by simpa [turnL] using Stk.nil, HX2.out, by rw [HZ2.out]; exact Nat.le_refl _⟩
  case round =>
    obtain ⟨i, t, lt, rt, hgi, rfl, hD1, hT1, hF, hOk, hti, hSt, hE, hsz⟩ := hrel
    obtain ⟨a4, c4, a5, c5, rfl, rfl⟩ := hF.st.val
    have HGI := Lib.hid hgi
    have HD1 := Lib.hid hD1
    have HT1 := Lib.hid hT1
    have HF := Lib.hid hF
    have HOK := Lib.hid hOk
    have HSTT := Lib.hid hSt
    have HEE := Lib.hid hE
    have t0 := blk_cell hT1 (i := 0) rfl
    have t1 := blk_cell hT1 (i := 1) rfl
    have e0 := blk_cell hD1 (i := 0) rfl
    have e1 := blk_cell hD1 (i := 1) rfl
    clear hgi hD1 hT1 hF hSt hE
    by_cases hi : i < n
    · have hrk := HKI0.out.ext HEE.out
      obtain ⟨_, _, ek, hrk⟩ := id hrk
      simp only [Value.slice.injEq] at ek
      obtain ⟨rfl, -, rfl⟩ := ek
      obtain ⟨bk, ok, hak, hck⟩ := ints_at' hrk
      have hml := Nat.mod_lt (i * 7 + c) (show 0 < ks.length by have := HN.out; omega)
      have hx : ks[(i * 7 + c) % ks.length] ∈ ks := by simp
      have hgd : ks.getD ((i * 7 + c) % ks.length) 0 = ks[(i * 7 + c) % ks.length] := by simp [List.getD, List.getElem?_eq_getElem hml]
      have hTN := turnL_succ ks c i
      have hNW := fun h7 => turnL_new (c := c) (i := i) HK.out.nd h7 (by have := HN.out; omega)
      obtain rfl := hak (by have := HN.out; omega)
      have cx := hck _ hml
      have hbd := HKB.out _ hx
      rw [hgd] at hTN hNW
      generalize ks[(i * 7 + c) % ks.length] = key at *
      rw [HN.out] at hml cx hNW
      obtain ⟨ix, hix⟩ : ∃ ix, (i * 7 + c) % n = ix := ⟨_, rfl⟩
      rw [hix] at hml cx
      have HTN := Lib.hid hTN
      have HNW := Lib.hid hNW
      have HAD := Lib.hid fun wx (hx : Ext wr wx) => add_st _ _ t key wx (HF.out.st.ext hx) hOk (by omega) (by omega)
      have v1 : IntKind.i64.wrap ((i : Int) * 7) = ((i * 7 : Nat) : Int) := (IntWalk.i64_in _ (by omega)).trans (by omega)
      have v2 : IntKind.i64.wrap (((i * 7 : Nat) : Int) + (c : Int)) = ((i * 7 + c : Nat) : Int) := (IntWalk.i64_in _ (by omega)).trans (by omega)
      have v3 : ((i * 7 + c : Nat) : Int).tmod (n : Int) = (ix : Int) := by rw [tmN, hix]
      have hiI : (i : Int) < (n : Int) := by omega
      have hi0 : (0 : Int) ≤ (i : Int) := by omega
      have hn0 : ((n : Int) == 0) = false := by rw [beq_eq_false_iff_ne]; omega
      have hn1 : ¬ n = 0 := by omega
      have hn2 : ¬ (n : Int) = 0 := by omega
      have hixI : (ix : Int) < (n : Int) := by omega
      have hix0 : (0 : Int) ≤ (ix : Int) := by omega
      generalize hm7 : i * 7 = i7 at *
      generalize hmc : i7 + c = i7c at *
      obtain ⟨fr, hfr⟩ : ∃ fr, decide (key ∉ t.keys) = fr := ⟨_, rfl⟩
      have HFR := Lib.hid (show n % 7 ≠ 0 → fr = true from fun h7 => by
        rw [← hfr, decide_eq_true_eq, (HSTT.out h7).mem]
        exact HNW.out h7)
      rw [hfr] at HAD
      have HTA := Lib.hid (show n % 7 ≠ 0 → Stk (t.add key) (turnL ks c (i + 1)) from fun h7 => by
        rw [HTN.out]
        exact (HSTT.out h7).fresh (HNW.out h7) (by omega))
      have HOA := Lib.hid (hOk.add (n := key) (by omega))
      have HLA := Lib.hid (show (t.add key).keys.length ≤ i + 1 from by
        by_cases hm : key ∈ t.keys
        · rw [St.add_old hm]; omega
        · rw [St.add_len hm]; omega)
      generalize t.add key = t2 at *
      clear hrk hak hck hx hgd hTN hNW hix hfr hbd HSTT hOk hm7 hmc
      have cx2 := cell_later (ext_al (Ext.refl wr) (Obj.cells #[.slice none 0 0, .slice none 0 0] 25)) cx
      have t02 := cell_later (ext_al (Ext.refl wr) (Obj.cells #[.slice none 0 0, .slice none 0 0] 25)) t0
      have t12 := cell_later (ext_al (Ext.refl wr) (Obj.cells #[.slice none 0 0, .slice none 0 0] 25)) t1
      obtain ⟨x4, hx4⟩ : ∃ x, t.loose.length = x := ⟨_, rfl⟩
      obtain ⟨x5, hx5⟩ : ∃ x, t.runs.length = x := ⟨_, rfl⟩
      rw [hx4] at t0 t02 HAD HT1
      rw [hx5] at t1 t12 HAD HT1
      clear hx4 hx5
      go_upto_region 7 with fail
      go_cut [11, 12, 13] (fun s11 s12 s13 wx => s12 = .bool fr ∧ s13 = .int .i64 0 ∧ ∃ (Q : Nat) (l2 r2 : Value), s11 = .pointer (some ⟨Q, 0, none⟩) ∧ NewSt wr l2 r2 t2 Q wx)
      case first =>
        go_region_law (first
          | (go_simp
             go_at_call 11
             refine (HPK.out _).mono ?_
             rintro e wq ⟨rfl, rfl⟩)
          | (go_simp
             go_at_call 10
             refine (HAD.out _ (by first | exact Below.drew (Ext.refl _) | exact ext_al (Below.drew (Ext.refl _)) _ | exact Below.drew (ext_al (Ext.refl _) _))).mono ?_
             rintro e w5 ⟨l2, r2, rfl, hS5, hE5⟩
             obtain ⟨a2, c2, a3, c3, rfl, rfl⟩ := hS5.st.val
             first
               | (have hb2 : w5.heap[wr.heap.size]? = some (.cells #[.slice none 0 0, .slice none 0 0] 25 (0, 0)) := by
                    first
                      | exact blk_ext (blk_new wr _) hE5
                      | exact blk_ext (blk_new wr.drew _) hE5
                      | exact blk_ext (blk_new wr _) (Ext.trans (Below.drew (Ext.refl _)) hE5)
                  have hEX : Ext wr w5 := by
                    first
                      | exact Ext.trans (ext_al (Ext.refl _) _) hE5
                      | exact Ext.trans (ext_al (Below.drew (Ext.refl _)) _) hE5
                      | exact Ext.trans (Below.drew (ext_al (Ext.refl _) _)) hE5
                  have r5 := blk_cell hb2 (i := 0) rfl
                  have g5 := blk_free hb2 0
                  have hRa := blk_set (i := 0) hb2 (.slice a2 t2.loose.length c2)
                  rw [(set2 _ _ _).1] at hRa
                  have r6 := blk_cell hRa (i := 1) rfl
                  have g6 := blk_free hRa 1
                  have hws : wr.heap.size < w5.heap.size := blk_lt hb2
                  have HFIN := Lib.hid (show NewSt wr (.slice a2 t2.loose.length c2) (.slice a3 t2.runs.length c3) t2 wr.heap.size ((w5.setCell ⟨wr.heap.size, 0, none⟩ (.slice a2 t2.loose.length c2)).setCell ⟨wr.heap.size, 1, none⟩ (.slice a3 t2.runs.length c3)) from
                    ⟨by have h := blk_set (i := 1) hRa (.slice a3 t2.runs.length c3); rw [(set2 _ _ _).2] at h; exact h,
                     FrSt.down (base := wr.heap.size + 1) (((hS5.down (by first | exact Nat.le_refl _ | simp)).set (p := ⟨wr.heap.size, 0, none⟩) (Nat.lt_succ_self _) _).set (p := ⟨wr.heap.size, 1, none⟩) (Nat.lt_succ_self _) _) (Nat.le_succ _),
                     ext_st (ext_st hEX (Nat.le_refl _) _) (Nat.le_refl _) _⟩)
                  clear hE5 hb2 hEX hRa hws)
               | (have hEX : Ext wr w5 := by
                    first
                      | exact hE5
                      | exact Ext.trans (Below.drew (Ext.refl _)) hE5
                  have HFIN := Lib.hid (show NewSt wr (.slice a2 t2.loose.length c2) (.slice a3 t2.runs.length c3) t2 w5.heap.size (w5.alloc (Obj.cells #[(.slice a2 t2.loose.length c2), (.slice a3 t2.runs.length c3)] 25)) from
                    ⟨blk_new _ _, (hS5.down (by first | exact Nat.le_refl _ | (simp; done))).ext (ext_al (Ext.refl _) _), ext_al hEX _⟩)
                  clear hE5 hEX)))
        all_goals
          go_wp2_with fail
          go_meet
          exact ⟨rfl, rfl, _, _, _, rfl, HFIN.out⟩
      case rest =>
        obtain ⟨rfl, rfl, Q, l2, r2, rfl, hN⟩ := hcut
        obtain ⟨a2, c2, a3, c3, rfl, rfl⟩ := hN.s.st.val
        obtain ⟨y2, hy2⟩ : ∃ x, t2.loose.length = x := ⟨_, rfl⟩
        obtain ⟨y3, hy3⟩ : ∃ x, t2.runs.length = x := ⟨_, rfl⟩
        rw [hy2, hy3] at hN
        clear hy2 hy3 HAD cx cx2 t02 t12 t0 t1 e0 e1
        have q0 := blk_cell hN.b (i := 0) rfl
        have q1 := blk_cell hN.b (i := 1) rfl
        have hTc := blk_ext HT1.out hN.e
        have t0 := blk_cell hTc (i := 0) rfl
        have g0 := blk_free hTc 0
        have hTa := blk_set (i := 0) hTc (.slice a2 y2 c2)
        rw [(set2 _ _ _).1] at hTa
        have t1 := blk_cell hTa (i := 1) rfl
        have g1 := blk_free hTa 1
        have hTb := blk_set (i := 1) hTa (.slice a3 y3 c3)
        rw [(set2 _ _ _).2] at hTb
        have HTB := Lib.hid hTb
        have HDB := Lib.hid (blk_far (blk_far (blk_ext HD1.out hN.e) (p := ⟨D + 1, 0, none⟩) (by show D + 1 ≠ D; omega) (.slice a2 y2 c2)) (p := ⟨D + 1, 1, none⟩) (by show D + 1 ≠ D; omega) (.slice a3 y3 c3))
        have HFB := Lib.hid ((hN.s.set (p := ⟨D + 1, 0, none⟩) (by show D + 1 < wr.heap.size; omega) (.slice a2 y2 c2)).set (p := ⟨D + 1, 1, none⟩) (by show D + 1 < wr.heap.size; omega) (.slice a3 y3 c3))
        have HXB := Lib.hid (ext_st (ext_st (HEE.out.trans hN.e) (p := ⟨D + 1, 0, none⟩) (by show w1.heap.size ≤ D + 1; have := HDD.out; omega) (.slice a2 y2 c2)) (p := ⟨D + 1, 1, none⟩) (by show w1.heap.size ≤ D + 1; have := HDD.out; omega) (.slice a3 y3 c3))
        have HZS := Lib.hid (show D + 2 ≤ ((wc.setCell ⟨D + 1, 0, none⟩ (.slice a2 y2 c2)).setCell ⟨D + 1, 1, none⟩ (.slice a3 y3 c3)).heap.size by have := hN.e.size; simp; omega)
        clear hTa hTb hTc hN
        cases fr
        · have h7 : n % 7 = 0 := by
            by_cases h : n % 7 = 0
            · exact h
            · exact absurd (HFR.out h) (by decide)
          have h7t : (n : Int).tmod 7 = 0 := by rw [tm7]; omega
          clear h7
          go_wp2_with fail
          go_roundg (gk - 1)
          case measure => have := HGI.out; omega
          case rel => exact ⟨i + 1, t2, _, _, by have := HGI.out; omega, by go_num, HDB.out, HTB.out, HFB.out.down (by omega), HOA.out, HLA.out, HTA.out, HXB.out, HZS.out⟩
        · go_wp2_with fail
          go_roundg (gk - 1)
          case measure => have := HGI.out; omega
          case rel => exact ⟨i + 1, t2, _, _, by have := HGI.out; omega, by go_num, HDB.out, HTB.out, HFB.out.down (by omega), HOA.out, HLA.out, HTA.out, HXB.out, HZS.out⟩
    · obtain rfl : i = n := by have := HGI.out; omega
      have hiI : ¬ (i : Int) < (i : Int) := by omega
      have HAS := Lib.hid fun wx (hx : Ext wr wx) => all_st _ _ s wx ((HS0.out.ext HEE.out).ext hx) HK.out.ok (by omega)
      have HAT := Lib.hid fun wx (hx : Ext wr wx) => all_st _ _ t wx (HF.out.st.ext hx) hOk (by omega)
      rw [HK.out.sort] at HAS
      have HTS := Lib.hid (show i % 7 ≠ 0 → sortL t.keys = sortL ks from fun h7 => by
        have h := HSTT.out h7
        rw [h.sort]
        have h2 := turnL_all (ks := ks) (c := c) (by rw [HN.out]; exact h.nd)
        rw [HN.out] at h2
        exact h2)
      have hsl := sortL_len ks
      rw [HN.out] at hsl
      have HKL := Lib.hid (show (l.length = 0 ↔ i = 0) from by
        rw [← HN.out]
        constructor
        · intro e
          rw [HK0.out.2 (List.eq_nil_of_length_eq_zero e)]; rfl
        · intro e
          rw [HK0.out.1 (List.eq_nil_of_length_eq_zero e)]; rfl)
      generalize sortL t.keys = LT at *
      generalize sortL ks = LS at *
      obtain ⟨x4, hx4⟩ : ∃ x, t.loose.length = x := ⟨_, rfl⟩
      obtain ⟨x5, hx5⟩ : ∃ x, t.runs.length = x := ⟨_, rfl⟩
      rw [hx4] at t0 HAT
      rw [hx5] at t1 HAT
      clear hx4 hx5 hOk
      go_wp2_with fail
      refine (HAS.out _ (Ext.refl _)).mono ?_
      rintro e w5 ⟨v5, rfl, hI5, hE5⟩
      obtain ⟨a6, c6, rfl, _⟩ := id hI5
      have t0 := cell_later hE5 t0
      have t1 := cell_later hE5 t1
      have HE5 := Lib.hid hE5
      have HI5 := Lib.hid hI5
      clear hI5 hE5 HAS e0 e1
      rw [hsl]
      go_wp2_with fail
      refine (HAT.out _ HE5.out).mono ?_
      rintro e w6 ⟨v6, rfl, hI6, hE6⟩
      have HI56 := Lib.hid (HI5.out.ext hE6)
      have HI6 := Lib.hid hI6
      have HE6 := Lib.hid (HE5.out.trans hE6)
      clear hE6 t0 t1 HAT HI5
      have HEF := Lib.hid (show Ext W w6 from HX0.out.trans (HEE.out.trans HE6.out))
      have h0l : l.length = 0 ↔ i = 0 := HKL.out
      have HBE := Lib.hid h0l
      clear h0l
      by_cases h0 : i = 0
      · have a1 : ((l.length : Int) == 0) = true := by rw [beq_iff_eq]; have := HBE.out; omega
        have a2 : ((i : Int) == 0) = true := by rw [beq_iff_eq]; omega
        have h7t : (i : Int).tmod 7 = 0 := by rw [tm7]; omega
        obtain ⟨a7, c7, rfl, _⟩ := hI6
        clear h0
        go_wp2_with fail
        go_ret
        exact ⟨rfl, HEF.out⟩
      · have a1 : ((l.length : Int) == 0) = false := by rw [beq_eq_false_iff_ne]; have := HBE.out; omega
        have a2 : ((i : Int) == 0) = false := by rw [beq_eq_false_iff_ne]; omega
        by_cases h7 : i % 7 = 0
        · have h7t : (i : Int).tmod 7 = 0 := by rw [tm7]; omega
          obtain ⟨a7, c7, rfl, _⟩ := hI6
          clear h7 h0
          go_wp2_with fail
          go_ret
          exact ⟨rfl, HEF.out⟩
        · have h7t : ((i : Int).tmod 7 == 0) = false := by rw [beq_eq_false_iff_ne, tm7]; omega
          have HTS2 := Lib.hid (HTS.out h7)
          rw [HTS2.out] at HI6
          obtain ⟨a7, c7, rfl, _⟩ := hI6
          have hsa := sameInts_any _ _ LS w6 HI56.out HI6.out
          rw [hsl] at hsa
          have HSA := Lib.hid hsa
          clear h7 h0 hsa
          go_wp2_with fail
          · go_ret
            exact ⟨rfl, HEF.out⟩
          · refine HSA.out.mono ?_
            rintro e w7 ⟨rfl, m, rfl⟩
            go_wp2_with fail
            go_ret
            exact ⟨rfl, below_drewN HEF.out _⟩

theorem storeTurns_law (v0 : Value) (v1 : Value) (W : World) (h0 : Cells Try.prog W 22 [v0]) (h1 : Cells Try.prog W 3 [v1]) :
    Calls Try.prog 6 #[v0, v1] W fun e w' => e = .returned (.bool true) ∧ Ext W w' := by
  obtain ⟨v, l, e0, hl, hI⟩ := h0.ints Try.underlying22 Try.underlying3 (by kernel_rfl)
  cases e0
  obtain ⟨n1, e1, i1⟩ := h1.i64 Try.underlying3
  cases e1
  exact storeTurns_walk _ l n1 W hl hI i1

end Go.Proofs.Ytmacgcaehfjoiaa
