/- SettleG: what is needed of it. No condition. -/
import Derived.Test.YthkiegaifkkegaaDoorSettleR
namespace Go.Proofs.YthkiegaifkkegaaDoor
open Go.RowKit
set_option maxRecDepth 100000 in
set_option maxHeartbeats 4000000 in
theorem settle_glo (w : World) (base T R n back at' : Nat) (fv ev : Value) (al ar : Option Addr) (cl nr cr : Nat) (b0 o0 : Nat) (A RA : Nat) (a b f : Nat → Bool) (hal : ∀ i, a i = false) (hT : w.heap[T]? = some (.cells #[fv, ev, .slice al n cl, .int .i64 (back : Int), .slice ar nr cr] 52 (0, 0)))
    (hrw : ar = some ⟨b0, o0, none⟩ ∧ at' < nr ∧ w.cell? ⟨b0, o0 + at', none⟩ = some (.slice (some ⟨R, 0, none⟩) n n)) (hR : w.ownsRow base 4 1 (.slice (some ⟨R, 0, none⟩) n n) n (rowF n f))
    (hA : w.heap[A]? = some (.cells #[.slice (some ⟨RA, 0, none⟩) n n] 32 (0, 0)))
    (hb : ∀ i, i < n → w.cell? ⟨RA, i, none⟩ = some (.bool (b i)))
    (hne : T ≠ R ∧ A ≠ R ∧ RA ≠ R) (hn : n ≤ 24) (hback : back < n) (hat : at' ≤ 60) :
    Calls Tryd.prog 29 #[.pointer (some ⟨T, 0, none⟩), .int .i64 (at' : Int), .bool true, .func (.func 31) #[] #[.pointer (some ⟨A, 0, none⟩)]] w fun e w' =>
      e = .returned (.tuple #[]) ∧ w.grownBy w' (some R) ∧ ∃ r, w'.ownsRow base 4 1 (.slice (some ⟨R, 0, none⟩) n n) n (rowF n r) ∧ ∀ i, i < n → (r i = true ↔ RelP n back (fun j => a j = true) (fun j => b j = true) i) := by
  obtain ⟨rfl, har, hcr⟩ := hrw
  have c4 := blk_cell hT (i := 4) rfl
  have hatI : (at' : Int) < (nr : Int) := by omega
  have hat0 : (0 : Int) ≤ (at' : Int) := by omega
  have HR := Lib.hid hR
  have HT := Lib.hid hT
  have HA := Lib.hid hA
  have HBC := Lib.hid hb
  have HAL := Lib.hid hal
  clear hal
  clear hT hA hb
  go_enter Tryd.func29, Tryd.ntmps29
  go_wp2_with fail
  clear c4
  go_loopg [22] n (fun m x wr => ∃ i : Nat, m + i = n ∧ x = .int .i64 (i : Int) ∧ w.grownBy wr (some R) ∧ wr.ownsRow base 4 1 (.slice (some ⟨R, 0, none⟩) n n) n (rowF n fun j => if j < i then true else f j))
  case atStart => exact ⟨0, by omega, by go_num, ⟨rfl, rfl, rfl, Nat.le_refl _, fun _ _ _ => rfl⟩, by simpa using HR.out⟩
  case round =>
    obtain ⟨i, hmi, rfl, hg, hr⟩ := hrel
    have HMI := Lib.hid hmi
    have HG := Lib.hid hg
    have HRR := Lib.hid hr
    by_cases hi : i < n
    · have ci := rowF_cell hr hi
      have fi := own_freeAt hr i
      have hiI : (i : Int) < (n : Int) := by omega
      have hi0 : (0 : Int) ≤ (i : Int) := by omega
      clear hmi hg hr
      go_wp2_with fail
      go_roundg (gk - 1)
      case measure => have := HMI.out; omega
      case rel => exact ⟨i + 1, by have := HMI.out; omega, by go_num, grown_st HG.out, by have h := own_setAt HRR.out (i := i) (.bool true); rw [rowF_set, bg_upd] at h; exact h⟩
    · have hiI : ¬ (i : Int) < (n : Int) := by omega
      have hz : rowF n (fun j => if j < i then true else f j) = rowF n fun _ => true := by
        unfold rowF
        exact List.map_congr_left fun j hj => by
          show Value.bool (if j < i then true else f j) = .bool true
          rw [if_pos (by have := List.mem_range.1 hj; omega)]
      rw [hz] at hr
      have HR0 := Lib.hid hr
      clear hr hz hmi hg HMI
      go_wp2_with fail
      clear hiI hi HRR
      obtain ⟨wo, rfl⟩ : ∃ wo : World, wo = wr := ⟨_, rfl⟩
      go_loopg [10] (n + 1) (fun m x wr => ∃ (r : Nat → Bool) (ch : Bool), x = .bool ch ∧ (m = if ch then cntB n true r + 1 else 0) ∧ w.grownBy wr (some R) ∧ wr.ownsRow base 4 1 (.slice (some ⟨R, 0, none⟩) n n) n (rowF n r) ∧
        Sets n back true (lawR a b) (fun i => ¬ RelP n back (fun j => a j = true) (fun j => b j = true) i) r ∧ (ch = false → ∀ j, j < n → lawR a b j (r (nxt n back j)) = r j))
      case atStart =>
        exact ⟨fun _ => true, true, rfl, by rw [if_pos rfl, cntB_all], HG.out, HR0.out, Sets.begin n back true _ _, fun h => by cases h⟩
      case round =>
        obtain ⟨r, ch, rfl, hm, hg, hr, hs, hst⟩ := hrel
        cases ch with
        | false =>
          have HGG := Lib.hid hg
          have HRR := Lib.hid hr
          have HEND := Lib.hid (settled_rel hback hs (hst rfl))
          clear hg hr hs hst hm
          go_wp2
          go_end0
          exact ⟨rfl, HGG.out, r, HRR.out, HEND.out⟩
        | true =>
          have HM := Lib.hid hm
          have HGG := Lib.hid hg
          have HRR := Lib.hid hr
          have HSS := Lib.hid hs
          clear hm hg hr hs hst
          go_wp2_with fail
          obtain ⟨w1, rfl⟩ : ∃ w1 : World, w1 = wr := ⟨_, rfl⟩
          obtain ⟨G0, rfl⟩ : ∃ G0 : Nat, G0 = gk := ⟨_, rfl⟩
          go_loopg [10, 11] n (fun m y x wi => ∃ (r' : Nat → Bool) (ch : Bool) (i : Nat), m = i ∧ i ≤ n ∧ y = .bool ch ∧ x = .int .i64 ((i : Int) - 1) ∧ w.grownBy wi (some R) ∧ wi.ownsRow base 4 1 (.slice (some ⟨R, 0, none⟩) n n) n (rowF n r') ∧
            Sets n back true (lawR a b) (fun i => ¬ RelP n back (fun j => a j = true) (fun j => b j = true) i) r' ∧ (ch = true → cntB n true r' < cntB n true r) ∧ cntB n true r' ≤ cntB n true r ∧ (ch = false → ∀ j, i ≤ j → j < n → lawR a b j (r' (nxt n back j)) = r' j))
          case atStart => exact ⟨r, false, n, rfl, Nat.le_refl _, rfl, rfl, HGG.out, HRR.out, HSS.out, (fun h => by cases h), Nat.le_refl _, fun _ j h1 h2 => by omega⟩
          case round =>
            obtain ⟨r', ch, i, hgi, hin, rfl, rfl, hg, hr, hs, hc1, hc2, hc3⟩ := hrel
            have HGI := Lib.hid hgi
            have HG2 := Lib.hid hg
            have HR2 := Lib.hid hr
            have HS2 := Lib.hid hs
            have HC1 := Lib.hid hc1
            have HC2 := Lib.hid hc2
            have HC3 := Lib.hid hc3
            clear hgi hs hc1 hc2 hc3
            cases i with
            | zero =>
              clear hg hr
              go_wp2_with fail
              go_roundg (if ch then cntB n true r' + 1 else 0)
              case measure =>
                have h1 := HM.out
                have h2 := HC1.out
                simp only [if_true] at h1
                cases ch
                · show (if false = true then cntB n true r' + 1 else 0) < G0
                  rw [if_neg (by simp)]; omega
                · have := h2 rfl
                  show (if true = true then cntB n true r' + 1 else 0) < G0
                  rw [if_pos rfl]; omega
              case rel => exact ⟨r', ch, rfl, rfl, HG2.out, HR2.out, HS2.out, fun h j hj => HC3.out h j (Nat.zero_le _) hj⟩
            | succ k =>
              have hk : k < n := by omega
              have hTw := (hg.block T (blk_lt HT.out) (fun e => hne.1 (Option.some.inj e))).trans HT.out
              have HBH := Lib.hid (behind_any wr T fv ev _ al n cl back k hTw (by omega))
              have hnx := nxt_lt (i := k) hback
              have cN := rowF_cell hr hnx
              have cK := rowF_cell hr hk
              have fK := own_freeAt hr k
              have hAw := (hg.block A (blk_lt HA.out) (fun e => hne.2.1 (Option.some.inj e))).trans HA.out
              have hbc := HBC.out k hk
              have cBk := (World.cell?_of_block (a := ⟨RA, k, none⟩) (hg.block RA (World.block_lt_of_cell? _ _ hbc) (fun e => hne.2.2 (Option.some.inj e)))).trans hbc
              have HLW := Lib.hid fun later => law_glo wr A RA n k (b k) later hAw cBk hk
              have hvn : (b k && r' (nxt n back k)) = lawR a b k (r' (nxt n back k)) := by simp [lawR, HAL.out k]
              have hkI : (0 : Int) ≤ (k : Int) := by omega
              have hkn : (k : Int) < (n : Int) := by omega
              have hnI : (nxt n back k : Int) < (n : Int) := by omega
              have hnI0 : (0 : Int) ≤ (nxt n back k : Int) := by omega
              clear hTw hAw hbc cBk hg hr hnx
              go_wp2_with fail
              refine HBH.out.mono ?_
              rintro e wq ⟨rfl, rfl⟩
              go_wp2_with fail
              refine (HLW.out _).mono ?_
              rintro e wq ⟨rfl, rfl⟩
              have HVN := Lib.hid hvn
              clear hvn cN
              by_cases hv : (b k && r' (nxt n back k)) = r' k
              · have HV := Lib.hid hv
                rw [hv]
                clear hv
                generalize hrk : r' k = rk at *
                have HRK := Lib.hid hrk
                clear hrk
                cases rk
                all_goals
                  go_wp2_with fail
                  go_roundg k
                  case measure => have := HGI.out; omega
                  case rel => exact ⟨r', ch, k, rfl, by omega, rfl, rfl, HG2.out, HR2.out, HS2.out, HC1.out, HC2.out, fun h j h1 h2 => by
                    by_cases e : j = k
                    · subst e; exact (HVN.out.symm.trans HV.out).trans HRK.out.symm
                    · exact HC3.out h j (by omega) h2⟩
              · obtain ⟨h1, h2⟩ := HS2.out.old hk (fun e => hv (HVN.out.trans e))
                have h2' : (b k && r' (nxt n back k)) = false := HVN.out.trans h2
                have HSN := Lib.hid (HS2.out.turn hback (lawR_mono a b) (fun i x hi hx hy => lawR_step a b i x hi hx hy) hk h2)
                have HCT := Lib.hid (cntB_turn h1 n hk)
                rw [h2']
                rw [h1] at cK
                clear h1 h2 h2' hv
                go_wp2_with fail
                go_roundg k
                case measure => have := HGI.out; omega
                case rel => exact ⟨updB r' k false, true, k, rfl, by omega, rfl, rfl, grown_st HG2.out, by have h := own_setAt HR2.out (i := k) (.bool false); rw [rowF_set] at h; exact h, HSN.out, fun _ => by have := HCT.out; have := HC2.out; simp only [Bool.not_true] at *; omega, by have := HCT.out; have := HC2.out; simp only [Bool.not_true] at *; omega, fun h => by cases h⟩
end Go.Proofs.YthkiegaifkkegaaDoor
