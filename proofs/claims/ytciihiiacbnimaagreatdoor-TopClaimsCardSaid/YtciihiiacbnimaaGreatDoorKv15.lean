/- Several texts in one: Settle; SettleU; SettleR; SettleF; SettleG; FillM; Fill0; Fill1. No condition. -/
import Derived.Test.YtciihiiacbnimaaGreatDoorKv14
import Derived.Test.YtciihiiacbnimaaGreatDoorKv10
import Derived.Deep.Cut
namespace Go.Proofs.YtciihiiacbnimaaGreatDoor
open Go.RowKit
def rowF (n : Nat) (r : Nat → Bool) : List Value := (List.range n).map fun i => .bool (r i)
theorem rowF_get {n : Nat} {r : Nat → Bool} {i : Nat} (h : i < n) : (rowF n r)[i]? = some (.bool (r i)) := by simp [rowF, h]
theorem rowF_len (n : Nat) (r : Nat → Bool) : (rowF n r).length = n := by simp [rowF]
theorem rowF_set {n : Nat} {r : Nat → Bool} {i : Nat} (v : Bool) : (rowF n r).set i (.bool v) = rowF n (updB r i v) := by
  apply List.ext_getElem?
  intro j
  rw [List.getElem?_set, rowF_len]
  by_cases hj : j < n
  · rw [rowF_get (r := updB r i v) hj]
    by_cases e : i = j
    · subst e
      rw [if_pos rfl, if_pos hj]
      show some (Value.bool v) = some (.bool (if i = i then v else r i))
      rw [if_pos rfl]
    · rw [if_neg e, rowF_get hj]
      show some (Value.bool (r j)) = some (.bool (if j = i then v else r j))
      rw [if_neg (fun h => e h.symm)]
  · rw [List.getElem?_eq_none (by rw [rowF_len]; omega), List.getElem?_eq_none (by rw [rowF_len]; omega)]
    split
    · split
      · omega
      · rfl
    · rfl
theorem rowF_cell {w : World} {base R n : Nat} {r : Nat → Bool} {i : Nat} (h : w.ownsRow base 4 1 (.slice (some ⟨R, 0, none⟩) n n) n (rowF n r)) (hi : i < n) : w.cell? ⟨R, i, none⟩ = some (.bool (r i)) := by
  have hl : i < (rowF n r).length := by rw [rowF_len]; exact hi
  refine (own_cellAt h (i := i) hl).trans ?_
  have := rowF_get (r := r) hi
  rw [List.getElem?_eq_getElem hl] at this
  exact this
theorem grown_st {w w' : World} {R i : Nat} {v : Value} (h : w.grownBy w' (some R)) : w.grownBy (w'.setCell ⟨R, i, none⟩ v) (some R) := by
  refine ⟨h.os, h.tape, h.output, by simpa using h.size, fun k hk hn => ?_⟩
  rw [Below.heap_setCell _ _ _ _ (fun e => hn (by rw [e]))]
  exact h.block k hk hn
end Go.Proofs.YtciihiiacbnimaaGreatDoor

namespace Go.Proofs.YtciihiiacbnimaaGreatDoor
open Go.RowKit
theorem cntB_all (n : Nat) (bg : Bool) : cntB n bg (fun _ => bg) = n := by
  unfold cntB
  rw [List.filter_eq_self.2 (fun x _ => by cases bg <;> rfl), List.length_range]
theorem bg_upd (bg : Bool) (f : Nat → Bool) (i : Nat) : updB (fun j => if j < i then bg else f j) i bg = fun j => if j < i + 1 then bg else f j := by
  funext j
  unfold updB
  by_cases e : j = i
  · subst e; simp
  · simp only [if_neg e]
    by_cases h : j < i
    · rw [if_pos h, if_pos (by omega)]
    · rw [if_neg h, if_neg (by omega)]
set_option maxRecDepth 100000 in
set_option maxHeartbeats 4000000 in
theorem settle_unt (w : World) (base T R n back at' : Nat) (fv ev : Value) (al ar : Option Addr) (cl nr cr : Nat) (b0 o0 : Nat) (A B RA RB : Nat) (a b f : Nat → Bool) (hT : w.heap[T]? = some (.cells #[fv, ev, .slice al n cl, .int .i64 (back : Int), .slice ar nr cr] 89 (0, 0)))
    (hrw : ar = some ⟨b0, o0, none⟩ ∧ at' < nr ∧ w.cell? ⟨b0, o0 + at', none⟩ = some (.slice (some ⟨R, 0, none⟩) n n)) (hR : w.ownsRow base 4 1 (.slice (some ⟨R, 0, none⟩) n n) n (rowF n f))
    (hA : w.heap[A]? = some (.cells #[.slice (some ⟨RA, 0, none⟩) n n] 53 (0, 0))) (hB : w.heap[B]? = some (.cells #[.slice (some ⟨RB, 0, none⟩) n n] 53 (0, 0)))
    (ha : ∀ i, i < n → w.cell? ⟨RA, i, none⟩ = some (.bool (a i))) (hb : ∀ i, i < n → w.cell? ⟨RB, i, none⟩ = some (.bool (b i)))
    (hne : T ≠ R ∧ A ≠ R ∧ B ≠ R ∧ RA ≠ R ∧ RB ≠ R) (hn : n ≤ 24) (hback : back < n) (hat : at' ≤ 60) :
    Calls Tryz.prog 85 #[.pointer (some ⟨T, 0, none⟩), .int .i64 (at' : Int), .bool false, .func (.func 88) #[] #[.pointer (some ⟨B, 0, none⟩), .pointer (some ⟨A, 0, none⟩)]] w fun e w' =>
      e = .returned (.tuple #[]) ∧ w.grownBy w' (some R) ∧ ∃ r, w'.ownsRow base 4 1 (.slice (some ⟨R, 0, none⟩) n n) n (rowF n r) ∧ ∀ i, i < n → (r i = true ↔ UntilP n back (fun j => a j = true) (fun j => b j = true) i) := by
  obtain ⟨rfl, har, hcr⟩ := hrw
  have c4 := blk_cell hT (i := 4) rfl
  have hatI : (at' : Int) < (nr : Int) := by omega
  have hat0 : (0 : Int) ≤ (at' : Int) := by omega
  have HR := Lib.hid hR
  have HT := Lib.hid hT
  have HA := Lib.hid hA
  have HB := Lib.hid hB
  have HAC := Lib.hid ha
  have HBC := Lib.hid hb
  clear hT hA hB ha hb
  go_enter Tryz.func85, Tryz.ntmps85
  go_wp2_with fail
  clear c4
  go_loopg [22] n (fun m x wr => ∃ i : Nat, m + i = n ∧ x = .int .i64 (i : Int) ∧ w.grownBy wr (some R) ∧ wr.ownsRow base 4 1 (.slice (some ⟨R, 0, none⟩) n n) n (rowF n fun j => if j < i then false else f j))
  case atStart => exact ⟨0, by omega, by go_num, ⟨rfl, rfl, rfl, Nat.le_refl _, fun _ _ _ => rfl⟩, by simpa using HR.out⟩
  case round =>
    obtain ⟨i, hmi, rfl, hg, hr⟩ := hrel
    have HMI := Lib.hid hmi
    have HG := Lib.hid hg
    have HRR := Lib.hid hr
    by_cases hi : i < n
    · have ci := rowF_cell hr hi
      have fi := own_freeAt hr i
      have hiI : (i : Int) < (n : Int) := by omega
      have hi0 : (0 : Int) ≤ (i : Int) := by omega
      clear hmi hg hr
      go_wp2_with fail
      go_roundg (gk - 1)
      case measure => have := HMI.out; omega
      case rel => exact ⟨i + 1, by have := HMI.out; omega, by go_num, grown_st HG.out, by have h := own_setAt HRR.out (i := i) (.bool false); rw [rowF_set, bg_upd] at h; exact h⟩
    · have hiI : ¬ (i : Int) < (n : Int) := by omega
      have hz : rowF n (fun j => if j < i then false else f j) = rowF n fun _ => false := by
        unfold rowF
        exact List.map_congr_left fun j hj => by
          show Value.bool (if j < i then false else f j) = .bool false
          rw [if_pos (by have := List.mem_range.1 hj; omega)]
      rw [hz] at hr
      have HR0 := Lib.hid hr
      clear hr hz hmi hg HMI
      go_wp2_with fail
      clear hiI hi HRR
      obtain ⟨wo, rfl⟩ : ∃ wo : World, wo = wr := ⟨_, rfl⟩
      go_loopg [10] (n + 1) (fun m x wr => ∃ (r : Nat → Bool) (ch : Bool), x = .bool ch ∧ (m = if ch then cntB n false r + 1 else 0) ∧ w.grownBy wr (some R) ∧ wr.ownsRow base 4 1 (.slice (some ⟨R, 0, none⟩) n n) n (rowF n r) ∧
        Sets n back false (lawU a b) (UntilP n back (fun j => a j = true) (fun j => b j = true)) r ∧ (ch = false → ∀ j, j < n → lawU a b j (r (nxt n back j)) = r j))
      case atStart =>
        exact ⟨fun _ => false, true, rfl, by rw [if_pos rfl, cntB_all], HG.out, HR0.out, Sets.begin n back false _ _, fun h => by cases h⟩
      case round =>
        obtain ⟨r, ch, rfl, hm, hg, hr, hs, hst⟩ := hrel
        cases ch with
        | false =>
          have HGG := Lib.hid hg
          have HRR := Lib.hid hr
          have HEND := Lib.hid (settled_until hback hs (hst rfl))
          clear hg hr hs hst hm
          go_wp2
          go_end0
          exact ⟨rfl, HGG.out, r, HRR.out, HEND.out⟩
        | true =>
          have HM := Lib.hid hm
          have HGG := Lib.hid hg
          have HRR := Lib.hid hr
          have HSS := Lib.hid hs
          clear hm hg hr hs hst
          go_wp2_with fail
          obtain ⟨w1, rfl⟩ : ∃ w1 : World, w1 = wr := ⟨_, rfl⟩
          obtain ⟨G0, rfl⟩ : ∃ G0 : Nat, G0 = gk := ⟨_, rfl⟩
          go_loopg [10, 11] n (fun m y x wi => ∃ (r' : Nat → Bool) (ch : Bool) (i : Nat), m = i ∧ i ≤ n ∧ y = .bool ch ∧ x = .int .i64 ((i : Int) - 1) ∧ w.grownBy wi (some R) ∧ wi.ownsRow base 4 1 (.slice (some ⟨R, 0, none⟩) n n) n (rowF n r') ∧
            Sets n back false (lawU a b) (UntilP n back (fun j => a j = true) (fun j => b j = true)) r' ∧ (ch = true → cntB n false r' < cntB n false r) ∧ cntB n false r' ≤ cntB n false r ∧ (ch = false → ∀ j, i ≤ j → j < n → lawU a b j (r' (nxt n back j)) = r' j))
          case atStart => exact ⟨r, false, n, rfl, Nat.le_refl _, rfl, rfl, HGG.out, HRR.out, HSS.out, (fun h => by cases h), Nat.le_refl _, fun _ j h1 h2 => by omega⟩
          case round =>
            obtain ⟨r', ch, i, hgi, hin, rfl, rfl, hg, hr, hs, hc1, hc2, hc3⟩ := hrel
            have HGI := Lib.hid hgi
            have HG2 := Lib.hid hg
            have HR2 := Lib.hid hr
            have HS2 := Lib.hid hs
            have HC1 := Lib.hid hc1
            have HC2 := Lib.hid hc2
            have HC3 := Lib.hid hc3
            clear hgi hs hc1 hc2 hc3
            cases i with
            | zero =>
              clear hg hr
              go_wp2_with fail
              go_roundg (if ch then cntB n false r' + 1 else 0)
              case measure =>
                have h1 := HM.out
                have h2 := HC1.out
                simp only [if_true] at h1
                cases ch
                · show (if false = true then cntB n false r' + 1 else 0) < G0
                  rw [if_neg (by simp)]; omega
                · have := h2 rfl
                  show (if true = true then cntB n false r' + 1 else 0) < G0
                  rw [if_pos rfl]; omega
              case rel => exact ⟨r', ch, rfl, rfl, HG2.out, HR2.out, HS2.out, fun h j hj => HC3.out h j (Nat.zero_le _) hj⟩
            | succ k =>
              have hk : k < n := by omega
              have hTw := (hg.block T (blk_lt HT.out) (fun e => hne.1 (Option.some.inj e))).trans HT.out
              have HBH := Lib.hid (behind_any wr T fv ev _ al n cl back k hTw (by omega))
              have hnx := nxt_lt (i := k) hback
              have cN := rowF_cell hr hnx
              have cK := rowF_cell hr hk
              have fK := own_freeAt hr k
              have hAw := (hg.block A (blk_lt HA.out) (fun e => hne.2.1 (Option.some.inj e))).trans HA.out
              have hBw := (hg.block B (blk_lt HB.out) (fun e => hne.2.2.1 (Option.some.inj e))).trans HB.out
              have hac := HAC.out k hk
              have hbc := HBC.out k hk
              have cAk := (World.cell?_of_block (a := ⟨RA, k, none⟩) (hg.block RA (World.block_lt_of_cell? _ _ hac) (fun e => hne.2.2.2.1 (Option.some.inj e)))).trans hac
              have cBk := (World.cell?_of_block (a := ⟨RB, k, none⟩) (hg.block RB (World.block_lt_of_cell? _ _ hbc) (fun e => hne.2.2.2.2 (Option.some.inj e)))).trans hbc
              have HLW := Lib.hid fun later => law_unt wr A RA n k (a k) later hAw cAk hk B RB (b k) hBw cBk
              have hvn : (b k || (a k && r' (nxt n back k))) = lawU a b k (r' (nxt n back k)) := rfl
              have hkI : (0 : Int) ≤ (k : Int) := by omega
              have hkn : (k : Int) < (n : Int) := by omega
              have hnI : (nxt n back k : Int) < (n : Int) := by omega
              have hnI0 : (0 : Int) ≤ (nxt n back k : Int) := by omega
              clear hTw hAw hBw hac hbc cAk cBk hg hr hnx
              go_wp2_with fail
              refine HBH.out.mono ?_
              rintro e wq ⟨rfl, rfl⟩
              go_wp2_with fail
              refine (HLW.out _).mono ?_
              rintro e wq ⟨rfl, rfl⟩
              clear hvn cN
              by_cases hv : (b k || (a k && r' (nxt n back k))) = r' k
              · have HV := Lib.hid hv
                rw [hv]
                clear hv
                generalize hrk : r' k = rk at *
                have HRK := Lib.hid hrk
                clear hrk
                cases rk
                all_goals
                  go_wp2_with fail
                  go_roundg k
                  case measure => have := HGI.out; omega
                  case rel => exact ⟨r', ch, k, rfl, by omega, rfl, rfl, HG2.out, HR2.out, HS2.out, HC1.out, HC2.out, fun h j h1 h2 => by
                    by_cases e : j = k
                    · subst e; exact HV.out.trans HRK.out.symm
                    · exact HC3.out h j (by omega) h2⟩
              · obtain ⟨h1, h2⟩ := HS2.out.old hk hv
                have h2' : (b k || (a k && r' (nxt n back k))) = true := h2
                have HSN := Lib.hid (HS2.out.turn hback (lawU_mono a b) (fun i x hi hx hy => lawU_step a b i x hi hx hy) hk h2)
                have HCT := Lib.hid (cntB_turn h1 n hk)
                rw [h2']
                rw [h1] at cK
                clear h1 h2 h2' hv
                go_wp2_with fail
                go_roundg k
                case measure => have := HGI.out; omega
                case rel => exact ⟨updB r' k true, true, k, rfl, by omega, rfl, rfl, grown_st HG2.out, by have h := own_setAt HR2.out (i := k) (.bool true); rw [rowF_set] at h; exact h, HSN.out, fun _ => by have := HCT.out; have := HC2.out; simp only [Bool.not_false] at *; omega, by have := HCT.out; have := HC2.out; simp only [Bool.not_false] at *; omega, fun h => by cases h⟩
end Go.Proofs.YtciihiiacbnimaaGreatDoor

namespace Go.Proofs.YtciihiiacbnimaaGreatDoor
open Go.RowKit
set_option maxRecDepth 100000 in
set_option maxHeartbeats 4000000 in
theorem settle_rel (w : World) (base T R n back at' : Nat) (fv ev : Value) (al ar : Option Addr) (cl nr cr : Nat) (b0 o0 : Nat) (A B RA RB : Nat) (a b f : Nat → Bool) (hT : w.heap[T]? = some (.cells #[fv, ev, .slice al n cl, .int .i64 (back : Int), .slice ar nr cr] 89 (0, 0)))
    (hrw : ar = some ⟨b0, o0, none⟩ ∧ at' < nr ∧ w.cell? ⟨b0, o0 + at', none⟩ = some (.slice (some ⟨R, 0, none⟩) n n)) (hR : w.ownsRow base 4 1 (.slice (some ⟨R, 0, none⟩) n n) n (rowF n f))
    (hA : w.heap[A]? = some (.cells #[.slice (some ⟨RA, 0, none⟩) n n] 53 (0, 0))) (hB : w.heap[B]? = some (.cells #[.slice (some ⟨RB, 0, none⟩) n n] 53 (0, 0)))
    (ha : ∀ i, i < n → w.cell? ⟨RA, i, none⟩ = some (.bool (a i))) (hb : ∀ i, i < n → w.cell? ⟨RB, i, none⟩ = some (.bool (b i)))
    (hne : T ≠ R ∧ A ≠ R ∧ B ≠ R ∧ RA ≠ R ∧ RB ≠ R) (hn : n ≤ 24) (hback : back < n) (hat : at' ≤ 60) :
    Calls Tryz.prog 85 #[.pointer (some ⟨T, 0, none⟩), .int .i64 (at' : Int), .bool true, .func (.func 89) #[] #[.pointer (some ⟨B, 0, none⟩), .pointer (some ⟨A, 0, none⟩)]] w fun e w' =>
      e = .returned (.tuple #[]) ∧ w.grownBy w' (some R) ∧ ∃ r, w'.ownsRow base 4 1 (.slice (some ⟨R, 0, none⟩) n n) n (rowF n r) ∧ ∀ i, i < n → (r i = true ↔ RelP n back (fun j => a j = true) (fun j => b j = true) i) := by
  obtain ⟨rfl, har, hcr⟩ := hrw
  have c4 := blk_cell hT (i := 4) rfl
  have hatI : (at' : Int) < (nr : Int) := by omega
  have hat0 : (0 : Int) ≤ (at' : Int) := by omega
  have HR := Lib.hid hR
  have HT := Lib.hid hT
  have HA := Lib.hid hA
  have HB := Lib.hid hB
  have HAC := Lib.hid ha
  have HBC := Lib.hid hb
  clear hT hA hB ha hb
  go_enter Tryz.func85, Tryz.ntmps85
  go_wp2_with fail
  clear c4
  go_loopg [22] n (fun m x wr => ∃ i : Nat, m + i = n ∧ x = .int .i64 (i : Int) ∧ w.grownBy wr (some R) ∧ wr.ownsRow base 4 1 (.slice (some ⟨R, 0, none⟩) n n) n (rowF n fun j => if j < i then true else f j))
  case atStart => exact ⟨0, by omega, by go_num, ⟨rfl, rfl, rfl, Nat.le_refl _, fun _ _ _ => rfl⟩, by simpa using HR.out⟩
  case round =>
    obtain ⟨i, hmi, rfl, hg, hr⟩ := hrel
    have HMI := Lib.hid hmi
    have HG := Lib.hid hg
    have HRR := Lib.hid hr
    by_cases hi : i < n
    · have ci := rowF_cell hr hi
      have fi := own_freeAt hr i
      have hiI : (i : Int) < (n : Int) := by omega
      have hi0 : (0 : Int) ≤ (i : Int) := by omega
      clear hmi hg hr
      go_wp2_with fail
      go_roundg (gk - 1)
      case measure => have := HMI.out; omega
      case rel => exact ⟨i + 1, by have := HMI.out; omega, by go_num, grown_st HG.out, by have h := own_setAt HRR.out (i := i) (.bool true); rw [rowF_set, bg_upd] at h; exact h⟩
    · have hiI : ¬ (i : Int) < (n : Int) := by omega
      have hz : rowF n (fun j => if j < i then true else f j) = rowF n fun _ => true := by
        unfold rowF
        exact List.map_congr_left fun j hj => by
          show Value.bool (if j < i then true else f j) = .bool true
          rw [if_pos (by have := List.mem_range.1 hj; omega)]
      rw [hz] at hr
      have HR0 := Lib.hid hr
      clear hr hz hmi hg HMI
      go_wp2_with fail
      clear hiI hi HRR
      obtain ⟨wo, rfl⟩ : ∃ wo : World, wo = wr := ⟨_, rfl⟩
      go_loopg [10] (n + 1) (fun m x wr => ∃ (r : Nat → Bool) (ch : Bool), x = .bool ch ∧ (m = if ch then cntB n true r + 1 else 0) ∧ w.grownBy wr (some R) ∧ wr.ownsRow base 4 1 (.slice (some ⟨R, 0, none⟩) n n) n (rowF n r) ∧
        Sets n back true (lawR a b) (fun i => ¬ RelP n back (fun j => a j = true) (fun j => b j = true) i) r ∧ (ch = false → ∀ j, j < n → lawR a b j (r (nxt n back j)) = r j))
      case atStart =>
        exact ⟨fun _ => true, true, rfl, by rw [if_pos rfl, cntB_all], HG.out, HR0.out, Sets.begin n back true _ _, fun h => by cases h⟩
      case round =>
        obtain ⟨r, ch, rfl, hm, hg, hr, hs, hst⟩ := hrel
        cases ch with
        | false =>
          have HGG := Lib.hid hg
          have HRR := Lib.hid hr
          have HEND := Lib.hid (settled_rel hback hs (hst rfl))
          clear hg hr hs hst hm
          go_wp2
          go_end0
          exact ⟨rfl, HGG.out, r, HRR.out, HEND.out⟩
        | true =>
          have HM := Lib.hid hm
          have HGG := Lib.hid hg
          have HRR := Lib.hid hr
          have HSS := Lib.hid hs
          clear hm hg hr hs hst
          go_wp2_with fail
          obtain ⟨w1, rfl⟩ : ∃ w1 : World, w1 = wr := ⟨_, rfl⟩
          obtain ⟨G0, rfl⟩ : ∃ G0 : Nat, G0 = gk := ⟨_, rfl⟩
          go_loopg [10, 11] n (fun m y x wi => ∃ (r' : Nat → Bool) (ch : Bool) (i : Nat), m = i ∧ i ≤ n ∧ y = .bool ch ∧ x = .int .i64 ((i : Int) - 1) ∧ w.grownBy wi (some R) ∧ wi.ownsRow base 4 1 (.slice (some ⟨R, 0, none⟩) n n) n (rowF n r') ∧
            Sets n back true (lawR a b) (fun i => ¬ RelP n back (fun j => a j = true) (fun j => b j = true) i) r' ∧ (ch = true → cntB n true r' < cntB n true r) ∧ cntB n true r' ≤ cntB n true r ∧ (ch = false → ∀ j, i ≤ j → j < n → lawR a b j (r' (nxt n back j)) = r' j))
          case atStart => exact ⟨r, false, n, rfl, Nat.le_refl _, rfl, rfl, HGG.out, HRR.out, HSS.out, (fun h => by cases h), Nat.le_refl _, fun _ j h1 h2 => by omega⟩
          case round =>
            obtain ⟨r', ch, i, hgi, hin, rfl, rfl, hg, hr, hs, hc1, hc2, hc3⟩ := hrel
            have HGI := Lib.hid hgi
            have HG2 := Lib.hid hg
            have HR2 := Lib.hid hr
            have HS2 := Lib.hid hs
            have HC1 := Lib.hid hc1
            have HC2 := Lib.hid hc2
            have HC3 := Lib.hid hc3
            clear hgi hs hc1 hc2 hc3
            cases i with
            | zero =>
              clear hg hr
              go_wp2_with fail
              go_roundg (if ch then cntB n true r' + 1 else 0)
              case measure =>
                have h1 := HM.out
                have h2 := HC1.out
                simp only [if_true] at h1
                cases ch
                · show (if false = true then cntB n true r' + 1 else 0) < G0
                  rw [if_neg (by simp)]; omega
                · have := h2 rfl
                  show (if true = true then cntB n true r' + 1 else 0) < G0
                  rw [if_pos rfl]; omega
              case rel => exact ⟨r', ch, rfl, rfl, HG2.out, HR2.out, HS2.out, fun h j hj => HC3.out h j (Nat.zero_le _) hj⟩
            | succ k =>
              have hk : k < n := by omega
              have hTw := (hg.block T (blk_lt HT.out) (fun e => hne.1 (Option.some.inj e))).trans HT.out
              have HBH := Lib.hid (behind_any wr T fv ev _ al n cl back k hTw (by omega))
              have hnx := nxt_lt (i := k) hback
              have cN := rowF_cell hr hnx
              have cK := rowF_cell hr hk
              have fK := own_freeAt hr k
              have hAw := (hg.block A (blk_lt HA.out) (fun e => hne.2.1 (Option.some.inj e))).trans HA.out
              have hBw := (hg.block B (blk_lt HB.out) (fun e => hne.2.2.1 (Option.some.inj e))).trans HB.out
              have hac := HAC.out k hk
              have hbc := HBC.out k hk
              have cAk := (World.cell?_of_block (a := ⟨RA, k, none⟩) (hg.block RA (World.block_lt_of_cell? _ _ hac) (fun e => hne.2.2.2.1 (Option.some.inj e)))).trans hac
              have cBk := (World.cell?_of_block (a := ⟨RB, k, none⟩) (hg.block RB (World.block_lt_of_cell? _ _ hbc) (fun e => hne.2.2.2.2 (Option.some.inj e)))).trans hbc
              have HLW := Lib.hid fun later => law_rel wr A RA n k (a k) later hAw cAk hk B RB (b k) hBw cBk
              have hvn : (b k && (a k || r' (nxt n back k))) = lawR a b k (r' (nxt n back k)) := rfl
              have hkI : (0 : Int) ≤ (k : Int) := by omega
              have hkn : (k : Int) < (n : Int) := by omega
              have hnI : (nxt n back k : Int) < (n : Int) := by omega
              have hnI0 : (0 : Int) ≤ (nxt n back k : Int) := by omega
              clear hTw hAw hBw hac hbc cAk cBk hg hr hnx
              go_wp2_with fail
              refine HBH.out.mono ?_
              rintro e wq ⟨rfl, rfl⟩
              go_wp2_with fail
              refine (HLW.out _).mono ?_
              rintro e wq ⟨rfl, rfl⟩
              clear hvn cN
              by_cases hv : (b k && (a k || r' (nxt n back k))) = r' k
              · have HV := Lib.hid hv
                rw [hv]
                clear hv
                generalize hrk : r' k = rk at *
                have HRK := Lib.hid hrk
                clear hrk
                cases rk
                all_goals
                  go_wp2_with fail
                  go_roundg k
                  case measure => have := HGI.out; omega
                  case rel => exact ⟨r', ch, k, rfl, by omega, rfl, rfl, HG2.out, HR2.out, HS2.out, HC1.out, HC2.out, fun h j h1 h2 => by
                    by_cases e : j = k
                    · subst e; exact HV.out.trans HRK.out.symm
                    · exact HC3.out h j (by omega) h2⟩
              · obtain ⟨h1, h2⟩ := HS2.out.old hk hv
                have h2' : (b k && (a k || r' (nxt n back k))) = false := h2
                have HSN := Lib.hid (HS2.out.turn hback (lawR_mono a b) (fun i x hi hx hy => lawR_step a b i x hi hx hy) hk h2)
                have HCT := Lib.hid (cntB_turn h1 n hk)
                rw [h2']
                rw [h1] at cK
                clear h1 h2 h2' hv
                go_wp2_with fail
                go_roundg k
                case measure => have := HGI.out; omega
                case rel => exact ⟨updB r' k false, true, k, rfl, by omega, rfl, rfl, grown_st HG2.out, by have h := own_setAt HR2.out (i := k) (.bool false); rw [rowF_set] at h; exact h, HSN.out, fun _ => by have := HCT.out; have := HC2.out; simp only [Bool.not_true] at *; omega, by have := HCT.out; have := HC2.out; simp only [Bool.not_true] at *; omega, fun h => by cases h⟩
end Go.Proofs.YtciihiiacbnimaaGreatDoor

namespace Go.Proofs.YtciihiiacbnimaaGreatDoor
open Go.RowKit
set_option maxRecDepth 100000 in
set_option maxHeartbeats 4000000 in
theorem settle_fin (w : World) (base T R n back at' : Nat) (fv ev : Value) (al ar : Option Addr) (cl nr cr : Nat) (b0 o0 : Nat) (A RA : Nat) (a b f : Nat → Bool) (hal : ∀ i, a i = true) (hT : w.heap[T]? = some (.cells #[fv, ev, .slice al n cl, .int .i64 (back : Int), .slice ar nr cr] 89 (0, 0)))
    (hrw : ar = some ⟨b0, o0, none⟩ ∧ at' < nr ∧ w.cell? ⟨b0, o0 + at', none⟩ = some (.slice (some ⟨R, 0, none⟩) n n)) (hR : w.ownsRow base 4 1 (.slice (some ⟨R, 0, none⟩) n n) n (rowF n f))
    (hA : w.heap[A]? = some (.cells #[.slice (some ⟨RA, 0, none⟩) n n] 53 (0, 0)))
    (hb : ∀ i, i < n → w.cell? ⟨RA, i, none⟩ = some (.bool (b i)))
    (hne : T ≠ R ∧ A ≠ R ∧ RA ≠ R) (hn : n ≤ 24) (hback : back < n) (hat : at' ≤ 60) :
    Calls Tryz.prog 85 #[.pointer (some ⟨T, 0, none⟩), .int .i64 (at' : Int), .bool false, .func (.func 86) #[] #[.pointer (some ⟨A, 0, none⟩)]] w fun e w' =>
      e = .returned (.tuple #[]) ∧ w.grownBy w' (some R) ∧ ∃ r, w'.ownsRow base 4 1 (.slice (some ⟨R, 0, none⟩) n n) n (rowF n r) ∧ ∀ i, i < n → (r i = true ↔ UntilP n back (fun j => a j = true) (fun j => b j = true) i) := by
  obtain ⟨rfl, har, hcr⟩ := hrw
  have c4 := blk_cell hT (i := 4) rfl
  have hatI : (at' : Int) < (nr : Int) := by omega
  have hat0 : (0 : Int) ≤ (at' : Int) := by omega
  have HR := Lib.hid hR
  have HT := Lib.hid hT
  have HA := Lib.hid hA
  have HBC := Lib.hid hb
  have HAL := Lib.hid hal
  clear hal
  clear hT hA hb
  go_enter Tryz.func85, Tryz.ntmps85
  go_wp2_with fail
  clear c4
  go_loopg [22] n (fun m x wr => ∃ i : Nat, m + i = n ∧ x = .int .i64 (i : Int) ∧ w.grownBy wr (some R) ∧ wr.ownsRow base 4 1 (.slice (some ⟨R, 0, none⟩) n n) n (rowF n fun j => if j < i then false else f j))
  case atStart => exact ⟨0, by omega, by go_num, ⟨rfl, rfl, rfl, Nat.le_refl _, fun _ _ _ => rfl⟩, by simpa using HR.out⟩
  case round =>
    obtain ⟨i, hmi, rfl, hg, hr⟩ := hrel
    have HMI := Lib.hid hmi
    have HG := Lib.hid hg
    have HRR := Lib.hid hr
    by_cases hi : i < n
    · have ci := rowF_cell hr hi
      have fi := own_freeAt hr i
      have hiI : (i : Int) < (n : Int) := by omega
      have hi0 : (0 : Int) ≤ (i : Int) := by omega
      clear hmi hg hr
      go_wp2_with fail
      go_roundg (gk - 1)
      case measure => have := HMI.out; omega
      case rel => exact ⟨i + 1, by have := HMI.out; omega, by go_num, grown_st HG.out, by have h := own_setAt HRR.out (i := i) (.bool false); rw [rowF_set, bg_upd] at h; exact h⟩
    · have hiI : ¬ (i : Int) < (n : Int) := by omega
      have hz : rowF n (fun j => if j < i then false else f j) = rowF n fun _ => false := by
        unfold rowF
        exact List.map_congr_left fun j hj => by
          show Value.bool (if j < i then false else f j) = .bool false
          rw [if_pos (by have := List.mem_range.1 hj; omega)]
      rw [hz] at hr
      have HR0 := Lib.hid hr
      clear hr hz hmi hg HMI
      go_wp2_with fail
      clear hiI hi HRR
      obtain ⟨wo, rfl⟩ : ∃ wo : World, wo = wr := ⟨_, rfl⟩
      go_loopg [10] (n + 1) (fun m x wr => ∃ (r : Nat → Bool) (ch : Bool), x = .bool ch ∧ (m = if ch then cntB n false r + 1 else 0) ∧ w.grownBy wr (some R) ∧ wr.ownsRow base 4 1 (.slice (some ⟨R, 0, none⟩) n n) n (rowF n r) ∧
        Sets n back false (lawU a b) (UntilP n back (fun j => a j = true) (fun j => b j = true)) r ∧ (ch = false → ∀ j, j < n → lawU a b j (r (nxt n back j)) = r j))
      case atStart =>
        exact ⟨fun _ => false, true, rfl, by rw [if_pos rfl, cntB_all], HG.out, HR0.out, Sets.begin n back false _ _, fun h => by cases h⟩
      case round =>
        obtain ⟨r, ch, rfl, hm, hg, hr, hs, hst⟩ := hrel
        cases ch with
        | false =>
          have HGG := Lib.hid hg
          have HRR := Lib.hid hr
          have HEND := Lib.hid (settled_until hback hs (hst rfl))
          clear hg hr hs hst hm
          go_wp2
          go_end0
          exact ⟨rfl, HGG.out, r, HRR.out, HEND.out⟩
        | true =>
          have HM := Lib.hid hm
          have HGG := Lib.hid hg
          have HRR := Lib.hid hr
          have HSS := Lib.hid hs
          clear hm hg hr hs hst
          go_wp2_with fail
          obtain ⟨w1, rfl⟩ : ∃ w1 : World, w1 = wr := ⟨_, rfl⟩
          obtain ⟨G0, rfl⟩ : ∃ G0 : Nat, G0 = gk := ⟨_, rfl⟩
          go_loopg [10, 11] n (fun m y x wi => ∃ (r' : Nat → Bool) (ch : Bool) (i : Nat), m = i ∧ i ≤ n ∧ y = .bool ch ∧ x = .int .i64 ((i : Int) - 1) ∧ w.grownBy wi (some R) ∧ wi.ownsRow base 4 1 (.slice (some ⟨R, 0, none⟩) n n) n (rowF n r') ∧
            Sets n back false (lawU a b) (UntilP n back (fun j => a j = true) (fun j => b j = true)) r' ∧ (ch = true → cntB n false r' < cntB n false r) ∧ cntB n false r' ≤ cntB n false r ∧ (ch = false → ∀ j, i ≤ j → j < n → lawU a b j (r' (nxt n back j)) = r' j))
          case atStart => exact ⟨r, false, n, rfl, Nat.le_refl _, rfl, rfl, HGG.out, HRR.out, HSS.out, (fun h => by cases h), Nat.le_refl _, fun _ j h1 h2 => by omega⟩
          case round =>
            obtain ⟨r', ch, i, hgi, hin, rfl, rfl, hg, hr, hs, hc1, hc2, hc3⟩ := hrel
            have HGI := Lib.hid hgi
            have HG2 := Lib.hid hg
            have HR2 := Lib.hid hr
            have HS2 := Lib.hid hs
            have HC1 := Lib.hid hc1
            have HC2 := Lib.hid hc2
            have HC3 := Lib.hid hc3
            clear hgi hs hc1 hc2 hc3
            cases i with
            | zero =>
              clear hg hr
              go_wp2_with fail
              go_roundg (if ch then cntB n false r' + 1 else 0)
              case measure =>
                have h1 := HM.out
                have h2 := HC1.out
                simp only [if_true] at h1
                cases ch
                · show (if false = true then cntB n false r' + 1 else 0) < G0
                  rw [if_neg (by simp)]; omega
                · have := h2 rfl
                  show (if true = true then cntB n false r' + 1 else 0) < G0
                  rw [if_pos rfl]; omega
              case rel => exact ⟨r', ch, rfl, rfl, HG2.out, HR2.out, HS2.out, fun h j hj => HC3.out h j (Nat.zero_le _) hj⟩
            | succ k =>
              have hk : k < n := by omega
              have hTw := (hg.block T (blk_lt HT.out) (fun e => hne.1 (Option.some.inj e))).trans HT.out
              have HBH := Lib.hid (behind_any wr T fv ev _ al n cl back k hTw (by omega))
              have hnx := nxt_lt (i := k) hback
              have cN := rowF_cell hr hnx
              have cK := rowF_cell hr hk
              have fK := own_freeAt hr k
              have hAw := (hg.block A (blk_lt HA.out) (fun e => hne.2.1 (Option.some.inj e))).trans HA.out
              have hbc := HBC.out k hk
              have cBk := (World.cell?_of_block (a := ⟨RA, k, none⟩) (hg.block RA (World.block_lt_of_cell? _ _ hbc) (fun e => hne.2.2 (Option.some.inj e)))).trans hbc
              have HLW := Lib.hid fun later => law_fin wr A RA n k (b k) later hAw cBk hk
              have hvn : (b k || r' (nxt n back k)) = lawU a b k (r' (nxt n back k)) := by simp [lawU, HAL.out k]
              have hkI : (0 : Int) ≤ (k : Int) := by omega
              have hkn : (k : Int) < (n : Int) := by omega
              have hnI : (nxt n back k : Int) < (n : Int) := by omega
              have hnI0 : (0 : Int) ≤ (nxt n back k : Int) := by omega
              clear hTw hAw hbc cBk hg hr hnx
              go_wp2_with fail
              refine HBH.out.mono ?_
              rintro e wq ⟨rfl, rfl⟩
              go_wp2_with fail
              refine (HLW.out _).mono ?_
              rintro e wq ⟨rfl, rfl⟩
              have HVN := Lib.hid hvn
              clear hvn cN
              by_cases hv : (b k || r' (nxt n back k)) = r' k
              · have HV := Lib.hid hv
                rw [hv]
                clear hv
                generalize hrk : r' k = rk at *
                have HRK := Lib.hid hrk
                clear hrk
                cases rk
                all_goals
                  go_wp2_with fail
                  go_roundg k
                  case measure => have := HGI.out; omega
                  case rel => exact ⟨r', ch, k, rfl, by omega, rfl, rfl, HG2.out, HR2.out, HS2.out, HC1.out, HC2.out, fun h j h1 h2 => by
                    by_cases e : j = k
                    · subst e; exact (HVN.out.symm.trans HV.out).trans HRK.out.symm
                    · exact HC3.out h j (by omega) h2⟩
              · obtain ⟨h1, h2⟩ := HS2.out.old hk (fun e => hv (HVN.out.trans e))
                have h2' : (b k || r' (nxt n back k)) = true := HVN.out.trans h2
                have HSN := Lib.hid (HS2.out.turn hback (lawU_mono a b) (fun i x hi hx hy => lawU_step a b i x hi hx hy) hk h2)
                have HCT := Lib.hid (cntB_turn h1 n hk)
                rw [h2']
                rw [h1] at cK
                clear h1 h2 h2' hv
                go_wp2_with fail
                go_roundg k
                case measure => have := HGI.out; omega
                case rel => exact ⟨updB r' k true, true, k, rfl, by omega, rfl, rfl, grown_st HG2.out, by have h := own_setAt HR2.out (i := k) (.bool true); rw [rowF_set] at h; exact h, HSN.out, fun _ => by have := HCT.out; have := HC2.out; simp only [Bool.not_false] at *; omega, by have := HCT.out; have := HC2.out; simp only [Bool.not_false] at *; omega, fun h => by cases h⟩
end Go.Proofs.YtciihiiacbnimaaGreatDoor

namespace Go.Proofs.YtciihiiacbnimaaGreatDoor
open Go.RowKit
set_option maxRecDepth 100000 in
set_option maxHeartbeats 4000000 in
theorem settle_glo (w : World) (base T R n back at' : Nat) (fv ev : Value) (al ar : Option Addr) (cl nr cr : Nat) (b0 o0 : Nat) (A RA : Nat) (a b f : Nat → Bool) (hal : ∀ i, a i = false) (hT : w.heap[T]? = some (.cells #[fv, ev, .slice al n cl, .int .i64 (back : Int), .slice ar nr cr] 89 (0, 0)))
    (hrw : ar = some ⟨b0, o0, none⟩ ∧ at' < nr ∧ w.cell? ⟨b0, o0 + at', none⟩ = some (.slice (some ⟨R, 0, none⟩) n n)) (hR : w.ownsRow base 4 1 (.slice (some ⟨R, 0, none⟩) n n) n (rowF n f))
    (hA : w.heap[A]? = some (.cells #[.slice (some ⟨RA, 0, none⟩) n n] 53 (0, 0)))
    (hb : ∀ i, i < n → w.cell? ⟨RA, i, none⟩ = some (.bool (b i)))
    (hne : T ≠ R ∧ A ≠ R ∧ RA ≠ R) (hn : n ≤ 24) (hback : back < n) (hat : at' ≤ 60) :
    Calls Tryz.prog 85 #[.pointer (some ⟨T, 0, none⟩), .int .i64 (at' : Int), .bool true, .func (.func 87) #[] #[.pointer (some ⟨A, 0, none⟩)]] w fun e w' =>
      e = .returned (.tuple #[]) ∧ w.grownBy w' (some R) ∧ ∃ r, w'.ownsRow base 4 1 (.slice (some ⟨R, 0, none⟩) n n) n (rowF n r) ∧ ∀ i, i < n → (r i = true ↔ RelP n back (fun j => a j = true) (fun j => b j = true) i) := by
  obtain ⟨rfl, har, hcr⟩ := hrw
  have c4 := blk_cell hT (i := 4) rfl
  have hatI : (at' : Int) < (nr : Int) := by omega
  have hat0 : (0 : Int) ≤ (at' : Int) := by omega
  have HR := Lib.hid hR
  have HT := Lib.hid hT
  have HA := Lib.hid hA
  have HBC := Lib.hid hb
  have HAL := Lib.hid hal
  clear hal
  clear hT hA hb
  go_enter Tryz.func85, Tryz.ntmps85
  go_wp2_with fail
  clear c4
  go_loopg [22] n (fun m x wr => ∃ i : Nat, m + i = n ∧ x = .int .i64 (i : Int) ∧ w.grownBy wr (some R) ∧ wr.ownsRow base 4 1 (.slice (some ⟨R, 0, none⟩) n n) n (rowF n fun j => if j < i then true else f j))
  case atStart => exact ⟨0, by omega, by go_num, ⟨rfl, rfl, rfl, Nat.le_refl _, fun _ _ _ => rfl⟩, by simpa using HR.out⟩
  case round =>
    obtain ⟨i, hmi, rfl, hg, hr⟩ := hrel
    have HMI := Lib.hid hmi
    have HG := Lib.hid hg
    have HRR := Lib.hid hr
    by_cases hi : i < n
    · have ci := rowF_cell hr hi
      have fi := own_freeAt hr i
      have hiI : (i : Int) < (n : Int) := by omega
      have hi0 : (0 : Int) ≤ (i : Int) := by omega
      clear hmi hg hr
      go_wp2_with fail
      go_roundg (gk - 1)
      case measure => have := HMI.out; omega
      case rel => exact ⟨i + 1, by have := HMI.out; omega, by go_num, grown_st HG.out, by have h := own_setAt HRR.out (i := i) (.bool true); rw [rowF_set, bg_upd] at h; exact h⟩
    · have hiI : ¬ (i : Int) < (n : Int) := by omega
      have hz : rowF n (fun j => if j < i then true else f j) = rowF n fun _ => true := by
        unfold rowF
        exact List.map_congr_left fun j hj => by
          show Value.bool (if j < i then true else f j) = .bool true
          rw [if_pos (by have := List.mem_range.1 hj; omega)]
      rw [hz] at hr
      have HR0 := Lib.hid hr
      clear hr hz hmi hg HMI
      go_wp2_with fail
      clear hiI hi HRR
      obtain ⟨wo, rfl⟩ : ∃ wo : World, wo = wr := ⟨_, rfl⟩
      go_loopg [10] (n + 1) (fun m x wr => ∃ (r : Nat → Bool) (ch : Bool), x = .bool ch ∧ (m = if ch then cntB n true r + 1 else 0) ∧ w.grownBy wr (some R) ∧ wr.ownsRow base 4 1 (.slice (some ⟨R, 0, none⟩) n n) n (rowF n r) ∧
        Sets n back true (lawR a b) (fun i => ¬ RelP n back (fun j => a j = true) (fun j => b j = true) i) r ∧ (ch = false → ∀ j, j < n → lawR a b j (r (nxt n back j)) = r j))
      case atStart =>
        exact ⟨fun _ => true, true, rfl, by rw [if_pos rfl, cntB_all], HG.out, HR0.out, Sets.begin n back true _ _, fun h => by cases h⟩
      case round =>
        obtain ⟨r, ch, rfl, hm, hg, hr, hs, hst⟩ := hrel
        cases ch with
        | false =>
          have HGG := Lib.hid hg
          have HRR := Lib.hid hr
          have HEND := Lib.hid (settled_rel hback hs (hst rfl))
          clear hg hr hs hst hm
          go_wp2
          go_end0
          exact ⟨rfl, HGG.out, r, HRR.out, HEND.out⟩
        | true =>
          have HM := Lib.hid hm
          have HGG := Lib.hid hg
          have HRR := Lib.hid hr
          have HSS := Lib.hid hs
          clear hm hg hr hs hst
          go_wp2_with fail
          obtain ⟨w1, rfl⟩ : ∃ w1 : World, w1 = wr := ⟨_, rfl⟩
          obtain ⟨G0, rfl⟩ : ∃ G0 : Nat, G0 = gk := ⟨_, rfl⟩
          go_loopg [10, 11] n (fun m y x wi => ∃ (r' : Nat → Bool) (ch : Bool) (i : Nat), m = i ∧ i ≤ n ∧ y = .bool ch ∧ x = .int .i64 ((i : Int) - 1) ∧ w.grownBy wi (some R) ∧ wi.ownsRow base 4 1 (.slice (some ⟨R, 0, none⟩) n n) n (rowF n r') ∧
            Sets n back true (lawR a b) (fun i => ¬ RelP n back (fun j => a j = true) (fun j => b j = true) i) r' ∧ (ch = true → cntB n true r' < cntB n true r) ∧ cntB n true r' ≤ cntB n true r ∧ (ch = false → ∀ j, i ≤ j → j < n → lawR a b j (r' (nxt n back j)) = r' j))
          case atStart => exact ⟨r, false, n, rfl, Nat.le_refl _, rfl, rfl, HGG.out, HRR.out, HSS.out, (fun h => by cases h), Nat.le_refl _, fun _ j h1 h2 => by omega⟩
          case round =>
            obtain ⟨r', ch, i, hgi, hin, rfl, rfl, hg, hr, hs, hc1, hc2, hc3⟩ := hrel
            have HGI := Lib.hid hgi
            have HG2 := Lib.hid hg
            have HR2 := Lib.hid hr
            have HS2 := Lib.hid hs
            have HC1 := Lib.hid hc1
            have HC2 := Lib.hid hc2
            have HC3 := Lib.hid hc3
            clear hgi hs hc1 hc2 hc3
            cases i with
            | zero =>
              clear hg hr
              go_wp2_with fail
              go_roundg (if ch then cntB n true r' + 1 else 0)
              case measure =>
                have h1 := HM.out
                have h2 := HC1.out
                simp only [if_true] at h1
                cases ch
                · show (if false = true then cntB n true r' + 1 else 0) < G0
                  rw [if_neg (by simp)]; omega
                · have := h2 rfl
                  show (if true = true then cntB n true r' + 1 else 0) < G0
                  rw [if_pos rfl]; omega
              case rel => exact ⟨r', ch, rfl, rfl, HG2.out, HR2.out, HS2.out, fun h j hj => HC3.out h j (Nat.zero_le _) hj⟩
            | succ k =>
              have hk : k < n := by omega
              have hTw := (hg.block T (blk_lt HT.out) (fun e => hne.1 (Option.some.inj e))).trans HT.out
              have HBH := Lib.hid (behind_any wr T fv ev _ al n cl back k hTw (by omega))
              have hnx := nxt_lt (i := k) hback
              have cN := rowF_cell hr hnx
              have cK := rowF_cell hr hk
              have fK := own_freeAt hr k
              have hAw := (hg.block A (blk_lt HA.out) (fun e => hne.2.1 (Option.some.inj e))).trans HA.out
              have hbc := HBC.out k hk
              have cBk := (World.cell?_of_block (a := ⟨RA, k, none⟩) (hg.block RA (World.block_lt_of_cell? _ _ hbc) (fun e => hne.2.2 (Option.some.inj e)))).trans hbc
              have HLW := Lib.hid fun later => law_glo wr A RA n k (b k) later hAw cBk hk
              have hvn : (b k && r' (nxt n back k)) = lawR a b k (r' (nxt n back k)) := by simp [lawR, HAL.out k]
              have hkI : (0 : Int) ≤ (k : Int) := by omega
              have hkn : (k : Int) < (n : Int) := by omega
              have hnI : (nxt n back k : Int) < (n : Int) := by omega
              have hnI0 : (0 : Int) ≤ (nxt n back k : Int) := by omega
              clear hTw hAw hbc cBk hg hr hnx
              go_wp2_with fail
              refine HBH.out.mono ?_
              rintro e wq ⟨rfl, rfl⟩
              go_wp2_with fail
              refine (HLW.out _).mono ?_
              rintro e wq ⟨rfl, rfl⟩
              have HVN := Lib.hid hvn
              clear hvn cN
              by_cases hv : (b k && r' (nxt n back k)) = r' k
              · have HV := Lib.hid hv
                rw [hv]
                clear hv
                generalize hrk : r' k = rk at *
                have HRK := Lib.hid hrk
                clear hrk
                cases rk
                all_goals
                  go_wp2_with fail
                  go_roundg k
                  case measure => have := HGI.out; omega
                  case rel => exact ⟨r', ch, k, rfl, by omega, rfl, rfl, HG2.out, HR2.out, HS2.out, HC1.out, HC2.out, fun h j h1 h2 => by
                    by_cases e : j = k
                    · subst e; exact (HVN.out.symm.trans HV.out).trans HRK.out.symm
                    · exact HC3.out h j (by omega) h2⟩
              · obtain ⟨h1, h2⟩ := HS2.out.old hk (fun e => hv (HVN.out.trans e))
                have h2' : (b k && r' (nxt n back k)) = false := HVN.out.trans h2
                have HSN := Lib.hid (HS2.out.turn hback (lawR_mono a b) (fun i x hi hx hy => lawR_step a b i x hi hx hy) hk h2)
                have HCT := Lib.hid (cntB_turn h1 n hk)
                rw [h2']
                rw [h1] at cK
                clear h1 h2 h2' hv
                go_wp2_with fail
                go_roundg k
                case measure => have := HGI.out; omega
                case rel => exact ⟨updB r' k false, true, k, rfl, by omega, rfl, rfl, grown_st HG2.out, by have h := own_setAt HR2.out (i := k) (.bool false); rw [rowF_set] at h; exact h, HSN.out, fun _ => by have := HCT.out; have := HC2.out; simp only [Bool.not_true] at *; omega, by have := HCT.out; have := HC2.out; simp only [Bool.not_true] at *; omega, fun h => by cases h⟩
end Go.Proofs.YtciihiiacbnimaaGreatDoor

namespace Go.Proofs.YtciihiiacbnimaaGreatDoor
open Go.RowKit
theorem below_set {B : Nat} {w w1 : World} (h : Below B w w1) (p : Addr) (v : Value) : Below B (w.setCell p v) (w1.setCell p v) := by
  refine ⟨h.os, h.tape, h.output, by simpa using h.size, fun k hk => ?_⟩
  have e := h.block k hk
  by_cases hp : k = p.block
  · subst hp
    show (w1.heap.modify p.block _)[p.block]? = (w.heap.modify p.block _)[p.block]?
    rw [Array.getElem?_modify, Array.getElem?_modify, e]
  · rw [Below.heap_setCell _ _ _ _ hp, Below.heap_setCell _ _ _ _ hp, e]
theorem cell_far {w : World} {a b : Addr} {u : Value} (h : w.cell? b = some u) (hne : b.block ≠ a.block) (v : Value) : (w.setCell a v).cell? b = some u :=
  by rw [World.cell?_setCell_other (h := fun e => hne (by rw [e]))]; exact h
theorem cell_side {w : World} {R i j : Nat} {u : Value} (h : w.cell? ⟨R, j, none⟩ = some u) (hne : j ≠ i) (v : Value) : (w.setCell ⟨R, i, none⟩ v).cell? ⟨R, j, none⟩ = some u :=
  by rw [World.cell?_setCell_other (h := fun e => by injection e with _ e; exact hne e.symm)]; exact h
theorem upd_val (V : Nat → Bool) (i : Nat) : updB (fun j => if j < i then V j else false) i (V i) = fun j => if j < i + 1 then V j else false := by
  funext j
  unfold updB
  by_cases e : j = i
  · subst e; simp
  · simp only [if_neg e]
    by_cases h : j < i
    · rw [if_pos h, if_pos (by omega)]
    · rw [if_neg h, if_neg (by omega)]
theorem keep_val {V : Nat → Bool} {i : Nat} (h : V i = false) : (fun j => if j < i then V j else false) = fun j => if j < i + 1 then V j else false := by
  rw [← upd_val V i, h]
  funext j
  unfold updB
  by_cases e : j = i
  · subst e; simp
  · rw [if_neg e]
theorem _root_.Go.World.grownBy.later_drew {w w' : World} {row : Option Nat} (h : w.grownBy w' row) (q : Nat) : w.grownBy (w'.drewN q) row := ⟨h.os, h.tape, h.output, h.size, h.block⟩
structure TMem (W2 w : World) (T RB N : Nat) (fv ev : Value) (al : Option Addr) (cl : Nat) (vs : List Value) (W : Wd) (S : List Tm) (at' : Nat) : Prop where
  ext : Ext W2 w
  tb : w.heap[T]? = some (.cells #[fv, ev, .slice al W.n cl, .int .i64 (W.back : Int), .slice (some ⟨RB, 0, none⟩) N N] 89 (0, 0))
  rb : ∃ xs, w.ownsRow W2.heap.size 53 1 (.slice (some ⟨RB, 0, none⟩) N N) N xs
  ne : T ≠ RB
  lo : W2.heap.size ≤ T
  rl : Row w 1 al W.n cl vs
  nl : ∀ q : Addr, al = some q → 0 < vs.length → q.block ≠ RB
  rows : ∀ q s, at' ≤ q → S[q]? = some s → ∃ R, w.cell? ⟨RB, q, none⟩ = some (.slice (some ⟨R, 0, none⟩) W.n W.n) ∧ R ≠ T ∧ R ≠ RB ∧ w.ownsRow W2.heap.size 4 1 (.slice (some ⟨R, 0, none⟩) W.n W.n) W.n (rowF W.n (satB W s))
theorem TMem.fin {W2 w w' : World} {T RB N : Nat} {fv ev : Value} {al : Option Addr} {cl : Nat} {vs : List Value} {W : Wd} {S : List Tm} {p R : Nat} {s : Tm} {r : Nat → Bool} (h : TMem W2 w T RB N fv ev al cl vs W S (p + 1)) (hR : R = w.heap.size) (hp : p < N)
    (hE : Below w.heap.size (w.setCell ⟨RB, p, none⟩ (.slice (some ⟨R, 0, none⟩) W.n W.n)) w') (hr : w'.ownsRow W2.heap.size 4 1 (.slice (some ⟨R, 0, none⟩) W.n W.n) W.n (rowF W.n r)) (hs : S[p]? = some s) (hv : ∀ i, i < W.n → r i = satB W s i) :
    TMem W2 w' T RB N fv ev al cl vs W S p := by
  obtain ⟨xs, hxs⟩ := h.rb
  have hlo := (hxs.lt RB rfl).1
  have hRBl := (hxs.lt RB rfl).2
  have hT := blk_lt h.tb
  have e1 : Ext W2 (w.setCell ⟨RB, p, none⟩ (.slice (some ⟨R, 0, none⟩) W.n W.n)) := ext_st h.ext (p := ⟨RB, p, none⟩) hlo _
  have e2 : Below W2.heap.size (w.setCell ⟨RB, p, none⟩ (.slice (some ⟨R, 0, none⟩) W.n W.n)) w' := Below.mono hE h.ext.size
  have x1 := own_setAt hxs (i := p) (.slice (some ⟨R, 0, none⟩) W.n W.n)
  have x2 := own_below x1 hE fun k hk => by have h3 := (x1.lt k hk).2; simpa using h3
  have hxl : xs.length = N := by simpa using hxs.1
  have hrF : rowF W.n r = rowF W.n (satB W s) := by
    unfold rowF
    exact List.map_congr_left fun j hj => by rw [hv j (List.mem_range.1 hj)]
  rw [hrF] at hr
  have hrl : Row w' 1 al W.n cl vs := h.rl.keep fun q hq hx => by
    have hb : q.block < w.heap.size := by subst hq; exact h.rl.blk hx
    rw [hE.block _ hb, Below.heap_setCell _ _ _ _ (h.nl q hq hx)]
  refine ⟨Below.trans e1 e2, ?_, ⟨_, x2⟩, h.ne, h.lo, hrl, h.nl, fun q s' hq hs' => ?_⟩
  · exact (hE.block T hT).trans (blk_far h.tb (p := ⟨RB, p, none⟩) (Ne.symm h.ne) _)
  · by_cases e : q = p
    · subst e
      obtain rfl : s = s' := by rw [hs] at hs'; exact Option.some.inj hs'
      refine ⟨R, ?_, by omega, by omega, hr⟩
      have hl : q < (xs.set q (.slice (some ⟨R, 0, none⟩) W.n W.n)).length := by simp; omega
      refine (own_cellAt x2 hl).trans ?_
      simp
    · obtain ⟨R', k1, k2, k3, k4⟩ := h.rows q s' (by omega) hs'
      have hR' := (k4.lt R' rfl).2
      refine ⟨R', ?_, k2, k3, ?_⟩
      · refine (World.cell?_of_block (a := ⟨RB, q, none⟩) (hE.block RB hRBl)).trans ?_
        rw [World.cell?_setCell_other (h := by intro h; injection h with _ h; exact e h.symm)]
        exact k1
      · exact own_below (own_setCell k4 (p := ⟨RB, p, none⟩) _ (by simpa [Value.ownBlock] using k3)) hE fun k hk => by
          simp only [Value.ownBlock, Option.some.injEq] at hk
          omega
theorem ownX {w wx : World} {RB : Nat} {W : Wd} {p R : Nat} (hE : Below w.heap.size (w.setCell ⟨RB, p, none⟩ (.slice (some ⟨R, 0, none⟩) W.n W.n)) wx) {base RA : Nat} {r : Nat → Bool} (o : w.ownsRow base 4 1 (.slice (some ⟨RA, 0, none⟩) W.n W.n) W.n (rowF W.n r)) (nB : RA ≠ RB) : wx.ownsRow base 4 1 (.slice (some ⟨RA, 0, none⟩) W.n W.n) W.n (rowF W.n r) :=
  own_below (own_setCell o (p := ⟨RB, p, none⟩) _ (by simpa [Value.ownBlock] using nB)) hE fun k hk => (o.lt k hk).2
section
variable {W2 w wx : World} {T RB N : Nat} {fv ev : Value} {al : Option Addr} {cl : Nat} {vs : List Value} {W : Wd} {S : List Tm} {p R : Nat} (h : TMem W2 w T RB N fv ev al cl vs W S (p + 1))
  (hE : Below w.heap.size (w.setCell ⟨RB, p, none⟩ (.slice (some ⟨R, 0, none⟩) W.n W.n)) wx)
include h hE
theorem TMem.extX : Ext W2 wx := by
  obtain ⟨xs, hxs⟩ := h.rb
  exact Below.trans (ext_st h.ext (p := ⟨RB, p, none⟩) (hxs.lt RB rfl).1 _) (Below.mono hE h.ext.size)
theorem TMem.tbl : wx.heap[T]? = some (.cells #[fv, ev, .slice al W.n cl, .int .i64 (W.back : Int), .slice (some ⟨RB, 0, none⟩) N N] 89 (0, 0)) :=
  (hE.block T (blk_lt h.tb)).trans (blk_far h.tb (p := ⟨RB, p, none⟩) (Ne.symm h.ne) _)
theorem TMem.cellP (hp : p < N) : wx.cell? ⟨RB, p, none⟩ = some (.slice (some ⟨R, 0, none⟩) W.n W.n) := by
  obtain ⟨xs, hxs⟩ := h.rb
  have hl : xs.length = N := by simpa using hxs.1
  refine (World.cell?_of_block (a := ⟨RB, p, none⟩) (hE.block RB (hxs.lt RB rfl).2)).trans ?_
  exact World.cell?_setCell_same _ _ _ (own_cellAt hxs (i := p) (by omega))
theorem TMem.rowC {q RA : Nat} (hc : w.cell? ⟨RB, q, none⟩ = some (.slice (some ⟨RA, 0, none⟩) W.n W.n)) (hq : q ≠ p) : wx.cell? ⟨RB, q, none⟩ = some (.slice (some ⟨RA, 0, none⟩) W.n W.n) := by
  obtain ⟨xs, hxs⟩ := h.rb
  exact (World.cell?_of_block (a := ⟨RB, q, none⟩) (hE.block RB (hxs.lt RB rfl).2)).trans (cell_side hc hq _)
theorem TMem.letC {i : Nat} {u : Value} (hu : vs[i]? = some u) : ∃ bL oL, al = some ⟨bL, oL, none⟩ ∧ bL < w.heap.size ∧ wx.cell? ⟨bL, oL + i, none⟩ = some u := by
  obtain ⟨bL, oL, _, h2, h3⟩ := h.rl.lie
  have hp := getElem?_pos hu
  have ha := h2 hp
  have hb := World.block_lt_of_cell? _ _ (h3 i u hu)
  refine ⟨bL, oL, ha, hb, ?_⟩
  refine (World.cell?_of_block (a := ⟨bL, oL + i, none⟩) (hE.block bL hb)).trans ?_
  exact cell_far (h3 i u hu) (a := ⟨RB, p, none⟩) (show bL ≠ RB from h.nl _ ha hp) _
end
structure FIn (W2 : World) (l : List Op2) (es : List Int) (S : List Tm) (W : Wd) (af ae : Option Addr) (cf ce : Nat) (vs : List Value) (props : Nat) : Prop where
  rl : Row W2 2 af l.length cf (l.flatMap opc)
  re : Row W2 1 ae es.length ce (es.map (.int .i64))
  eL : EachB W2 vs W.ls
  lets : ∀ x ∈ W.ls, x.length = props
  tab : Tab W2
  n24 : W.n ≤ 24
  bk : W.back < W.n
  l60 : l.length ≤ 60
  el : es.length = l.length
  sl : S.length = l.length
theorem mid_world {W2 w w1 : World} {T RB N : Nat} {fv ev : Value} {al : Option Addr} {cl : Nat} {vs : List Value} {W : Wd} {S : List Tm} {p : Nat} (h : TMem W2 w T RB N fv ev al cl vs W S (p + 1)) (hE : Ext w w1)
    (ho : w1.ownsRow W2.heap.size 4 1 (.slice (some ⟨w.heap.size, 0, none⟩) W.n W.n) W.n (rowF W.n fun _ => false)) {w5 : World}
    (h5 : w5 = ((w1.setCell ⟨RB, p, none⟩ (.slice (some ⟨w.heap.size, 0, none⟩) W.n W.n)).alloc (Obj.cells #[.slice none 0 0] 53)).alloc (Obj.cells #[.slice none 0 0] 53)) :
    Below w.heap.size (w.setCell ⟨RB, p, none⟩ (.slice (some ⟨w.heap.size, 0, none⟩) W.n W.n)) w5 ∧ w5.ownsRow W2.heap.size 4 1 (.slice (some ⟨w.heap.size, 0, none⟩) W.n W.n) W.n (rowF W.n fun _ => false) ∧
      w5.heap[w1.heap.size]? = some (.cells #[.slice none 0 0] 53 (0, 0)) ∧ w5.heap[w1.heap.size + 1]? = some (.cells #[.slice none 0 0] 53 (0, 0)) ∧ w.heap.size < w1.heap.size := by
  obtain ⟨xs, hxs⟩ := h.rb
  have hRB := (hxs.lt RB rfl).2
  have hR : w.heap.size < w1.heap.size := (ho.lt _ rfl).2
  generalize hw2 : w1.setCell ⟨RB, p, none⟩ (.slice (some ⟨w.heap.size, 0, none⟩) W.n W.n) = w2 at *
  have hsz : w2.heap.size = w1.heap.size := by rw [← hw2]; simp
  have hB2 : Below w.heap.size (w.setCell ⟨RB, p, none⟩ (.slice (some ⟨w.heap.size, 0, none⟩) W.n W.n)) w2 := by rw [← hw2]; exact below_set hE _ _
  have hO2 : w2.ownsRow W2.heap.size 4 1 (.slice (some ⟨w.heap.size, 0, none⟩) W.n W.n) W.n (rowF W.n fun _ => false) := by
    rw [← hw2]; exact own_setCell ho (p := ⟨RB, p, none⟩) _ (by simp [Value.ownBlock]; omega)
  have hE5 := ext_al (ext_al (Ext.refl w2) (Obj.cells #[.slice none 0 0] 53)) (Obj.cells #[.slice none 0 0] 53)
  have hbA := blk_ext (blk_new w2 (Obj.cells #[.slice none 0 0] 53)) (ext_al (Ext.refl _) (Obj.cells #[.slice none 0 0] 53))
  have hbB := blk_new (w2.alloc (Obj.cells #[.slice none 0 0] 53)) (Obj.cells #[.slice none 0 0] 53)
  rw [show (w2.alloc (Obj.cells #[.slice none 0 0] 53)).heap.size = w2.heap.size + 1 by simp] at hbB
  rw [← h5] at hE5 hbA hbB
  rw [hsz] at hbA hbB
  exact ⟨Below.trans hB2 (Below.mono hE5 (by rw [hsz]; exact Nat.le_of_lt hR)), own_ext hO2 hE5, hbA, hbB, hR⟩
end Go.Proofs.YtciihiiacbnimaaGreatDoor

namespace Go.Proofs.YtciihiiacbnimaaGreatDoor
open Go.RowKit
set_option maxRecDepth 100000 in
set_option maxHeartbeats 8000000 in
theorem fill_prop (W2 w : World) (T RB p : Nat) (l : List Op2) (es : List Int) (S : List Tm) (W : Wd) (af ae aL : Option Addr) (cf ce cL : Nat) (vs : List Value) (props : Nat) (v : Int)
    (hI : FIn W2 l es S W af ae cf ce vs props) (hM : TMem W2 w T RB l.length (.slice af l.length cf) (.slice ae es.length ce) aL cL vs W S (p + 1)) (hS : SubAt l es S p (.n0 13 v)) (vn : Nat) (hvp : vn < props) (hvv : v = (vn : Int)) :
    Calls Tryz.prog 55 #[.pointer (some ⟨T, 0, none⟩), .int .i64 (p : Int)] w fun e w' => e = .returned (.tuple #[]) ∧ TMem W2 w' T RB l.length (.slice af l.length cf) (.slice ae es.length ce) aL cL vs W S p := by
  obtain ⟨hpl, hpe⟩ := List.getElem?_eq_some_iff.1 hS.op
  obtain ⟨xs, hxs⟩ := hM.rb
  have hxl : xs.length = l.length := by simpa using hxs.1
  have cP := own_cellAt hxs (i := p) (by omega)
  have fP := own_freeAt hxs p
  have c2 : w.cell? ⟨T, 2, none⟩ = some (.slice aL W.n cL) := blk_cell hM.tb (i := 2) rfl
  have c4 : w.cell? ⟨T, 4, none⟩ = some (.slice (some ⟨RB, 0, none⟩) l.length l.length) := blk_cell hM.tb (i := 4) rfl
  obtain ⟨bb, off, hb, hc⟩ := hI.rl.ops
  obtain rfl := hb (by omega)
  obtain ⟨k1, k2⟩ := hc p hpl
  rw [hpe] at k1 k2
  simp only [Tm.kd, Tm.vl] at k1 k2
  have HK1 := Lib.hid k1
  have HK2 := Lib.hid k2
  have hTlt : T < w.heap.size := blk_lt hM.tb
  have hTRB : T ≠ RB := hM.ne
  have hpI : (p : Int) < (l.length : Int) := by omega
  have hp0 : (0 : Int) ≤ (p : Int) := by omega
  have hn24 := hI.n24
  have hl60 := hI.l60
  have HI := Lib.hid hI
  have HM := Lib.hid hM
  have HS := Lib.hid hS
  have HXS := Lib.hid hxs
  have hlo := hM.lo
  clear hb hc hI hS hxs hpe hM k1 k2
  subst hvv
  go_enter Tryz.func55, Tryz.ntmps55
  go_wp2_with (at_make; go_must (refine wpList_make_full _ rfl _ _ 53 rfl W2.heap.size 4 (Tryz.slBools.inf.choose) (.bool false) 1 Tryz.underlying53 Tryz.slBools.inf.choose_spec.1 Tryz.slBools.inf.choose_spec.2.1 Tryz.slBools.inf.choose_spec.2.2.1 .i64 .i64 W.n W.n W.n rfl rfl rfl rfl (by rw [Tryz.slBools.inf.choose_spec.2.2.2]; omega) (by unfold maxLen; omega) HM.out.ext.size ?_))
  intro w1 hown1 hg1
  have hE1 : Ext w w1 := (Ext.refl w).grown hg1 (Nat.le_refl _) (by simp)
  have hmx : (madeCells #[Value.bool false] W.n).toList = rowF W.n (fun _ => false) := by
    rw [toList_madeCells_one, rowF]
    apply List.ext_getElem?
    intro j
    by_cases h : j < W.n <;> simp [h]
  rw [hmx] at hown1
  obtain ⟨hB5, hR5, hA5, hB5', hw1⟩ := mid_world HM.out hE1 hown1 rfl
  have HB5 := Lib.hid hB5
  have HR5 := Lib.hid hR5
  have HA5 := Lib.hid hA5
  have HBB5 := Lib.hid hB5'
  have d4 := cell_later hE1 c4
  have dP := cell_later hE1 cP
  have gP : w1.frozen? ⟨RB, p, none⟩ = false := own_freeAt (own_ext HXS.out hE1) p
  clear hmx hown1 hg1 hE1 c2 c4 cP fP hB5 hR5 hA5 hB5'
  go_upto_region 2 with fail
  clear d4 dP gP
  go_upto_region 3 with fail
  generalize ((w1.setCell ⟨RB, p, none⟩ (.slice (some ⟨w.heap.size, 0, none⟩) W.n W.n)).alloc (Obj.cells #[.slice none 0 0] 53)).alloc (Obj.cells #[.slice none 0 0] 53) = w5 at *
  generalize w1.heap.size = A at *
  have c0 : w5.cell? ⟨T, 0, none⟩ = some (.slice (some ⟨bb, off, none⟩) l.length cf) := blk_cell (HM.out.tbl HB5.out) (i := 0) rfl
  have k1 := cell_later (HM.out.extX HB5.out) HK1.out
  have HPA := Lib.hid (show Calls Tryz.prog 84 #[.int .i64 13] w5 fun e w' => e = .returned (.tuple #[.int .i64 0, .int .i64 0]) ∧ w5 = w' from parts_good 13 w5 (HI.out.tab.ext (HM.out.extX HB5.out)) (by omega) (by omega))
  go_wp2_with fail
  refine HPA.out.mono ?_
  rintro e wq ⟨rfl, rfl⟩
  clear HPA c0 k1
  go_upto_region 8 with fail
  obtain ⟨w6, hw6⟩ : ∃ w6 : World, w6 = w5 := ⟨_, rfl⟩
  rw [← hw6]
  have HB6 := Lib.hid (hw6 ▸ HB5.out)
  have HR6 := Lib.hid (hw6 ▸ HR5.out)
  clear hw6 HB5 HR5 HA5 HBB5
  have c0 : w6.cell? ⟨T, 0, none⟩ = some (.slice (some ⟨bb, off, none⟩) l.length cf) := blk_cell (HM.out.tbl HB6.out) (i := 0) rfl
  have k1 := cell_later (HM.out.extX HB6.out) HK1.out
  have k2 := cell_later (HM.out.extX HB6.out) HK2.out
  go_upto_region 9 with fail
  clear c0 k1 k2
  have hx6 := ext_al (Ext.refl w6) (Obj.cells #[.int .i64 13, .int .i64 (vn : Int)] 102)
  have hO7 := blk_new w6 (Obj.cells #[.int .i64 13, .int .i64 (vn : Int)] 102)
  have hwle : w.heap.size < w6.heap.size := (HR6.out.lt _ rfl).2
  have HB7 := Lib.hid (Below.trans HB6.out (Below.mono hx6 (Nat.le_of_lt hwle)))
  have HR7 := Lib.hid (own_ext HR6.out hx6)
  generalize w6.alloc (Obj.cells #[.int .i64 13, .int .i64 (vn : Int)] 102) = w7 at *
  have hOR : w6.heap.size ≠ w.heap.size := by omega
  generalize w6.heap.size = O at *
  have HO7 := Lib.hid hO7
  have o0 := blk_cell hO7 (i := 0) rfl
  clear hx6 hO7 HB6 HR6
  obtain ⟨V, hV⟩ : ∃ V : Nat → Bool, V = satB W (.n0 13 (vn : Int)) := ⟨_, rfl⟩
  have HVS := Lib.hid hV
  have HVI := Lib.hid fun i => (congrFun hV i).trans (satB_prop W (vn : Int) i)
  clear hV
  go_upto_region 10 with fail
  clear o0
  go_wp2_with fail
  go_loopg [73] W.n (fun m x wr => ∃ i : Nat, m + i = W.n ∧ x = .int .i64 (i : Int) ∧ w7.grownBy wr (some w.heap.size) ∧ wr.ownsRow W2.heap.size 4 1 (.slice (some ⟨w.heap.size, 0, none⟩) W.n W.n) W.n (rowF W.n fun j => if j < i then V j else false))
  case atStart => exact ⟨0, by omega, by go_num, ⟨rfl, rfl, rfl, Nat.le_refl _, fun _ _ _ => rfl⟩, by simpa using HR7.out⟩
  case round =>
    obtain ⟨i, hmi, rfl, hg, hr⟩ := hrel
    have HMI := Lib.hid hmi
    have HG := Lib.hid hg
    have HRR := Lib.hid hr
    by_cases hi : i < W.n
    · have hvi := HVI.out i
      have o0 := blk_cell (blk_grown HO7.out hg (by simpa using hOR)) (i := 0) rfl
      have cR := rowF_cell hr hi
      have fR := own_freeAt hr i
      have hiI : (i : Int) < (W.n : Int) := by omega
      have hi0 : (0 : Int) ≤ (i : Int) := by omega
      have hll : i < W.ls.length := hi
      have hvl : vs.length = W.ls.length := HI.out.eL.1
      have c2 : wr.cell? ⟨T, 2, none⟩ = some (.slice aL W.n cL) := blk_cell (blk_grown (HM.out.tbl HB7.out) hg (by simp; omega)) (i := 2) rfl
      obtain ⟨bL, oL, rfl, hbl, cL1'⟩ := HM.out.letC HB7.out (List.getElem?_eq_getElem (show i < vs.length by omega))
      have hlx := HM.out.extX HB7.out
      obtain ⟨ax, cx, ex, rx⟩ := HI.out.eL.2 i _ _ (List.getElem?_eq_getElem (by omega)) (List.getElem?_eq_getElem hll)
      have hlen := HI.out.lets _ (List.getElem_mem hll)
      rw [ex, hlen] at cL1'
      obtain ⟨bx, ox, hx1, hx2⟩ := row_ints rx
      obtain rfl := hx1 (by omega)
      have cL2' := hx2 vn _ (getD_some (by omega))
      have b2 := World.block_lt_of_cell? _ _ cL2'
      have hW2 : W2.heap.size ≤ w.heap.size := HM.out.ext.size
      have cL1 := hg.cell cL1' (by simp; omega)
      have cL2 := hg.cell (cell_later hlx cL2') (by simp only at b2; simp; omega)
      have o1 := blk_cell (blk_grown HO7.out hg (by simpa using hOR)) (i := 1) rfl
      have hvi2 : V i = W.ls[i].getD vn false := by
        rw [hvi]; simp [List.getD, List.getElem?_eq_getElem hll]
      generalize W.ls[i].getD vn false = x at *
      have HVX := Lib.hid hvi2
      have hvI : (vn : Int) < (props : Int) := by omega
      have hvI0 : (0 : Int) ≤ (vn : Int) := by omega
      clear hmi hg hr hvi hvi2 hlx cL1' cL2' hx1 hx2 rx ex hlen b2 hll hvl hbl
      go_upto_region 15 with fail
      go_region
      all_goals
        go_wp2_with fail
        go_roundg (gk - 1)
        case measure => have := HMI.out; omega
        case rel => exact ⟨i + 1, by have := HMI.out; omega, by go_num, by first | exact grown_st HG.out | exact (grown_st HG.out).later_drew _, by have h := own_setAt HRR.out (i := i) (.bool (V i)); rw [rowF_set, upd_val] at h; first | exact h | exact own_ext h (Below.drew (Ext.refl _)) | (rw [HVX.out] at h; exact h)⟩
    · have hiI : ¬ (i : Int) < (W.n : Int) := by omega
      have hz : ∀ j, j < W.n → (if j < i then V j else false) = satB W (.n0 13 (vn : Int)) j := fun j hj => by rw [if_pos (by omega)]; exact congrFun HVS.out j
      have HEND := Lib.hid (HM.out.fin rfl hpl (Below.grown HB7.out hg (Nat.le_of_lt (HR7.out.lt _ rfl).2) (fun k hk => by injection hk with hk; omega)) hr HS.out.sub hz)
      clear hz hmi hg hr
      go_wp2
      go_end0
      exact ⟨rfl, HEND.out⟩
set_option maxRecDepth 100000 in
set_option maxHeartbeats 8000000 in
theorem fill_yes (W2 w : World) (T RB p : Nat) (l : List Op2) (es : List Int) (S : List Tm) (W : Wd) (af ae aL : Option Addr) (cf ce cL : Nat) (vs : List Value) (props : Nat)
    (hI : FIn W2 l es S W af ae cf ce vs props) (hM : TMem W2 w T RB l.length (.slice af l.length cf) (.slice ae es.length ce) aL cL vs W S (p + 1)) (hS : SubAt l es S p (.n0 11 0)) :
    Calls Tryz.prog 55 #[.pointer (some ⟨T, 0, none⟩), .int .i64 (p : Int)] w fun e w' => e = .returned (.tuple #[]) ∧ TMem W2 w' T RB l.length (.slice af l.length cf) (.slice ae es.length ce) aL cL vs W S p := by
  obtain ⟨hpl, hpe⟩ := List.getElem?_eq_some_iff.1 hS.op
  obtain ⟨xs, hxs⟩ := hM.rb
  have hxl : xs.length = l.length := by simpa using hxs.1
  have cP := own_cellAt hxs (i := p) (by omega)
  have fP := own_freeAt hxs p
  have c2 : w.cell? ⟨T, 2, none⟩ = some (.slice aL W.n cL) := blk_cell hM.tb (i := 2) rfl
  have c4 : w.cell? ⟨T, 4, none⟩ = some (.slice (some ⟨RB, 0, none⟩) l.length l.length) := blk_cell hM.tb (i := 4) rfl
  obtain ⟨bb, off, hb, hc⟩ := hI.rl.ops
  obtain rfl := hb (by omega)
  obtain ⟨k1, k2⟩ := hc p hpl
  rw [hpe] at k1 k2
  simp only [Tm.kd, Tm.vl] at k1 k2
  have HK1 := Lib.hid k1
  have HK2 := Lib.hid k2
  have hTlt : T < w.heap.size := blk_lt hM.tb
  have hTRB : T ≠ RB := hM.ne
  have hpI : (p : Int) < (l.length : Int) := by omega
  have hp0 : (0 : Int) ≤ (p : Int) := by omega
  have hn24 := hI.n24
  have hl60 := hI.l60
  have HI := Lib.hid hI
  have HM := Lib.hid hM
  have HS := Lib.hid hS
  have HXS := Lib.hid hxs
  have hlo := hM.lo
  clear hb hc hI hS hxs hpe hM k1 k2
  go_enter Tryz.func55, Tryz.ntmps55
  go_wp2_with (at_make; go_must (refine wpList_make_full _ rfl _ _ 53 rfl W2.heap.size 4 (Tryz.slBools.inf.choose) (.bool false) 1 Tryz.underlying53 Tryz.slBools.inf.choose_spec.1 Tryz.slBools.inf.choose_spec.2.1 Tryz.slBools.inf.choose_spec.2.2.1 .i64 .i64 W.n W.n W.n rfl rfl rfl rfl (by rw [Tryz.slBools.inf.choose_spec.2.2.2]; omega) (by unfold maxLen; omega) HM.out.ext.size ?_))
  intro w1 hown1 hg1
  have hE1 : Ext w w1 := (Ext.refl w).grown hg1 (Nat.le_refl _) (by simp)
  have hmx : (madeCells #[Value.bool false] W.n).toList = rowF W.n (fun _ => false) := by
    rw [toList_madeCells_one, rowF]
    apply List.ext_getElem?
    intro j
    by_cases h : j < W.n <;> simp [h]
  rw [hmx] at hown1
  obtain ⟨hB5, hR5, hA5, hB5', hw1⟩ := mid_world HM.out hE1 hown1 rfl
  have HB5 := Lib.hid hB5
  have HR5 := Lib.hid hR5
  have HA5 := Lib.hid hA5
  have HBB5 := Lib.hid hB5'
  have d4 := cell_later hE1 c4
  have dP := cell_later hE1 cP
  have gP : w1.frozen? ⟨RB, p, none⟩ = false := own_freeAt (own_ext HXS.out hE1) p
  clear hmx hown1 hg1 hE1 c2 c4 cP fP hB5 hR5 hA5 hB5'
  go_upto_region 2 with fail
  clear d4 dP gP
  go_upto_region 3 with fail
  generalize ((w1.setCell ⟨RB, p, none⟩ (.slice (some ⟨w.heap.size, 0, none⟩) W.n W.n)).alloc (Obj.cells #[.slice none 0 0] 53)).alloc (Obj.cells #[.slice none 0 0] 53) = w5 at *
  generalize w1.heap.size = A at *
  have c0 : w5.cell? ⟨T, 0, none⟩ = some (.slice (some ⟨bb, off, none⟩) l.length cf) := blk_cell (HM.out.tbl HB5.out) (i := 0) rfl
  have k1 := cell_later (HM.out.extX HB5.out) HK1.out
  have HPA := Lib.hid (show Calls Tryz.prog 84 #[.int .i64 11] w5 fun e w' => e = .returned (.tuple #[.int .i64 0, .int .i64 0]) ∧ w5 = w' from parts_good 11 w5 (HI.out.tab.ext (HM.out.extX HB5.out)) (by omega) (by omega))
  go_wp2_with fail
  refine HPA.out.mono ?_
  rintro e wq ⟨rfl, rfl⟩
  clear HPA c0 k1
  go_upto_region 8 with fail
  obtain ⟨w6, hw6⟩ : ∃ w6 : World, w6 = w5 := ⟨_, rfl⟩
  rw [← hw6]
  have HB6 := Lib.hid (hw6 ▸ HB5.out)
  have HR6 := Lib.hid (hw6 ▸ HR5.out)
  clear hw6 HB5 HR5 HA5 HBB5
  have c0 : w6.cell? ⟨T, 0, none⟩ = some (.slice (some ⟨bb, off, none⟩) l.length cf) := blk_cell (HM.out.tbl HB6.out) (i := 0) rfl
  have k1 := cell_later (HM.out.extX HB6.out) HK1.out
  have k2 := cell_later (HM.out.extX HB6.out) HK2.out
  go_upto_region 9 with fail
  clear c0 k1 k2
  have hx6 := ext_al (Ext.refl w6) (Obj.cells #[.int .i64 11, .int .i64 0] 102)
  have hO7 := blk_new w6 (Obj.cells #[.int .i64 11, .int .i64 0] 102)
  have hwle : w.heap.size < w6.heap.size := (HR6.out.lt _ rfl).2
  have HB7 := Lib.hid (Below.trans HB6.out (Below.mono hx6 (Nat.le_of_lt hwle)))
  have HR7 := Lib.hid (own_ext HR6.out hx6)
  generalize w6.alloc (Obj.cells #[.int .i64 11, .int .i64 0] 102) = w7 at *
  have hOR : w6.heap.size ≠ w.heap.size := by omega
  generalize w6.heap.size = O at *
  have HO7 := Lib.hid hO7
  have o0 := blk_cell hO7 (i := 0) rfl
  clear hx6 hO7 HB6 HR6
  obtain ⟨V, hV⟩ : ∃ V : Nat → Bool, V = satB W (.n0 11 0) := ⟨_, rfl⟩
  have HVS := Lib.hid hV
  have HVI := Lib.hid fun i => (congrFun hV i).trans (satB_yes W 0 i)
  clear hV
  go_upto_region 10 with fail
  clear o0
  go_wp2_with fail
  go_loopg [73] W.n (fun m x wr => ∃ i : Nat, m + i = W.n ∧ x = .int .i64 (i : Int) ∧ w7.grownBy wr (some w.heap.size) ∧ wr.ownsRow W2.heap.size 4 1 (.slice (some ⟨w.heap.size, 0, none⟩) W.n W.n) W.n (rowF W.n fun j => if j < i then V j else false))
  case atStart => exact ⟨0, by omega, by go_num, ⟨rfl, rfl, rfl, Nat.le_refl _, fun _ _ _ => rfl⟩, by simpa using HR7.out⟩
  case round =>
    obtain ⟨i, hmi, rfl, hg, hr⟩ := hrel
    have HMI := Lib.hid hmi
    have HG := Lib.hid hg
    have HRR := Lib.hid hr
    by_cases hi : i < W.n
    · have hvi := HVI.out i
      have o0 := blk_cell (blk_grown HO7.out hg (by simpa using hOR)) (i := 0) rfl
      have cR := rowF_cell hr hi
      have fR := own_freeAt hr i
      have hiI : (i : Int) < (W.n : Int) := by omega
      have hi0 : (0 : Int) ≤ (i : Int) := by omega
      have HVX := Lib.hid hvi
      clear hmi hg hr hvi
      go_wp2_with fail
      go_roundg (gk - 1)
      case measure => have := HMI.out; omega
      case rel => exact ⟨i + 1, by have := HMI.out; omega, by go_num, grown_st HG.out, by have h := own_setAt HRR.out (i := i) (.bool (V i)); rw [rowF_set, upd_val] at h; first | exact h | (rw [HVX.out] at h; exact h)⟩
    · have hiI : ¬ (i : Int) < (W.n : Int) := by omega
      have hz : ∀ j, j < W.n → (if j < i then V j else false) = satB W (.n0 11 0) j := fun j hj => by rw [if_pos (by omega)]; exact congrFun HVS.out j
      have HEND := Lib.hid (HM.out.fin rfl hpl (Below.grown HB7.out hg (Nat.le_of_lt (HR7.out.lt _ rfl).2) (fun k hk => by injection hk with hk; omega)) hr HS.out.sub hz)
      clear hz hmi hg hr
      go_wp2
      go_end0
      exact ⟨rfl, HEND.out⟩
set_option maxRecDepth 100000 in
set_option maxHeartbeats 8000000 in
theorem fill_no (W2 w : World) (T RB p : Nat) (l : List Op2) (es : List Int) (S : List Tm) (W : Wd) (af ae aL : Option Addr) (cf ce cL : Nat) (vs : List Value) (props : Nat)
    (hI : FIn W2 l es S W af ae cf ce vs props) (hM : TMem W2 w T RB l.length (.slice af l.length cf) (.slice ae es.length ce) aL cL vs W S (p + 1)) (hS : SubAt l es S p (.n0 12 0)) :
    Calls Tryz.prog 55 #[.pointer (some ⟨T, 0, none⟩), .int .i64 (p : Int)] w fun e w' => e = .returned (.tuple #[]) ∧ TMem W2 w' T RB l.length (.slice af l.length cf) (.slice ae es.length ce) aL cL vs W S p := by
  obtain ⟨hpl, hpe⟩ := List.getElem?_eq_some_iff.1 hS.op
  obtain ⟨xs, hxs⟩ := hM.rb
  have hxl : xs.length = l.length := by simpa using hxs.1
  have cP := own_cellAt hxs (i := p) (by omega)
  have fP := own_freeAt hxs p
  have c2 : w.cell? ⟨T, 2, none⟩ = some (.slice aL W.n cL) := blk_cell hM.tb (i := 2) rfl
  have c4 : w.cell? ⟨T, 4, none⟩ = some (.slice (some ⟨RB, 0, none⟩) l.length l.length) := blk_cell hM.tb (i := 4) rfl
  obtain ⟨bb, off, hb, hc⟩ := hI.rl.ops
  obtain rfl := hb (by omega)
  obtain ⟨k1, k2⟩ := hc p hpl
  rw [hpe] at k1 k2
  simp only [Tm.kd, Tm.vl] at k1 k2
  have HK1 := Lib.hid k1
  have HK2 := Lib.hid k2
  have hTlt : T < w.heap.size := blk_lt hM.tb
  have hTRB : T ≠ RB := hM.ne
  have hpI : (p : Int) < (l.length : Int) := by omega
  have hp0 : (0 : Int) ≤ (p : Int) := by omega
  have hn24 := hI.n24
  have hl60 := hI.l60
  have HI := Lib.hid hI
  have HM := Lib.hid hM
  have HS := Lib.hid hS
  have HXS := Lib.hid hxs
  have hlo := hM.lo
  clear hb hc hI hS hxs hpe hM k1 k2
  go_enter Tryz.func55, Tryz.ntmps55
  go_wp2_with (at_make; go_must (refine wpList_make_full _ rfl _ _ 53 rfl W2.heap.size 4 (Tryz.slBools.inf.choose) (.bool false) 1 Tryz.underlying53 Tryz.slBools.inf.choose_spec.1 Tryz.slBools.inf.choose_spec.2.1 Tryz.slBools.inf.choose_spec.2.2.1 .i64 .i64 W.n W.n W.n rfl rfl rfl rfl (by rw [Tryz.slBools.inf.choose_spec.2.2.2]; omega) (by unfold maxLen; omega) HM.out.ext.size ?_))
  intro w1 hown1 hg1
  have hE1 : Ext w w1 := (Ext.refl w).grown hg1 (Nat.le_refl _) (by simp)
  have hmx : (madeCells #[Value.bool false] W.n).toList = rowF W.n (fun _ => false) := by
    rw [toList_madeCells_one, rowF]
    apply List.ext_getElem?
    intro j
    by_cases h : j < W.n <;> simp [h]
  rw [hmx] at hown1
  obtain ⟨hB5, hR5, hA5, hB5', hw1⟩ := mid_world HM.out hE1 hown1 rfl
  have HB5 := Lib.hid hB5
  have HR5 := Lib.hid hR5
  have HA5 := Lib.hid hA5
  have HBB5 := Lib.hid hB5'
  have d4 := cell_later hE1 c4
  have dP := cell_later hE1 cP
  have gP : w1.frozen? ⟨RB, p, none⟩ = false := own_freeAt (own_ext HXS.out hE1) p
  clear hmx hown1 hg1 hE1 c2 c4 cP fP hB5 hR5 hA5 hB5'
  go_upto_region 2 with fail
  clear d4 dP gP
  go_upto_region 3 with fail
  generalize ((w1.setCell ⟨RB, p, none⟩ (.slice (some ⟨w.heap.size, 0, none⟩) W.n W.n)).alloc (Obj.cells #[.slice none 0 0] 53)).alloc (Obj.cells #[.slice none 0 0] 53) = w5 at *
  generalize w1.heap.size = A at *
  have c0 : w5.cell? ⟨T, 0, none⟩ = some (.slice (some ⟨bb, off, none⟩) l.length cf) := blk_cell (HM.out.tbl HB5.out) (i := 0) rfl
  have k1 := cell_later (HM.out.extX HB5.out) HK1.out
  have HPA := Lib.hid (show Calls Tryz.prog 84 #[.int .i64 12] w5 fun e w' => e = .returned (.tuple #[.int .i64 0, .int .i64 0]) ∧ w5 = w' from parts_good 12 w5 (HI.out.tab.ext (HM.out.extX HB5.out)) (by omega) (by omega))
  go_wp2_with fail
  refine HPA.out.mono ?_
  rintro e wq ⟨rfl, rfl⟩
  clear HPA c0 k1
  go_upto_region 8 with fail
  obtain ⟨w6, hw6⟩ : ∃ w6 : World, w6 = w5 := ⟨_, rfl⟩
  rw [← hw6]
  have HB6 := Lib.hid (hw6 ▸ HB5.out)
  have HR6 := Lib.hid (hw6 ▸ HR5.out)
  clear hw6 HB5 HR5 HA5 HBB5
  have c0 : w6.cell? ⟨T, 0, none⟩ = some (.slice (some ⟨bb, off, none⟩) l.length cf) := blk_cell (HM.out.tbl HB6.out) (i := 0) rfl
  have k1 := cell_later (HM.out.extX HB6.out) HK1.out
  have k2 := cell_later (HM.out.extX HB6.out) HK2.out
  go_upto_region 9 with fail
  clear c0 k1 k2
  have hx6 := ext_al (Ext.refl w6) (Obj.cells #[.int .i64 12, .int .i64 0] 102)
  have hO7 := blk_new w6 (Obj.cells #[.int .i64 12, .int .i64 0] 102)
  have hwle : w.heap.size < w6.heap.size := (HR6.out.lt _ rfl).2
  have HB7 := Lib.hid (Below.trans HB6.out (Below.mono hx6 (Nat.le_of_lt hwle)))
  have HR7 := Lib.hid (own_ext HR6.out hx6)
  generalize w6.alloc (Obj.cells #[.int .i64 12, .int .i64 0] 102) = w7 at *
  have hOR : w6.heap.size ≠ w.heap.size := by omega
  generalize w6.heap.size = O at *
  have HO7 := Lib.hid hO7
  have o0 := blk_cell hO7 (i := 0) rfl
  clear hx6 hO7 HB6 HR6
  obtain ⟨V, hV⟩ : ∃ V : Nat → Bool, V = satB W (.n0 12 0) := ⟨_, rfl⟩
  have HVS := Lib.hid hV
  have HVI := Lib.hid fun i => (congrFun hV i).trans (satB_no W 0 i)
  clear hV
  go_upto_region 10 with fail
  clear o0
  go_wp2_with fail
  go_loopg [73] W.n (fun m x wr => ∃ i : Nat, m + i = W.n ∧ x = .int .i64 (i : Int) ∧ w7.grownBy wr (some w.heap.size) ∧ wr.ownsRow W2.heap.size 4 1 (.slice (some ⟨w.heap.size, 0, none⟩) W.n W.n) W.n (rowF W.n fun j => if j < i then V j else false))
  case atStart => exact ⟨0, by omega, by go_num, ⟨rfl, rfl, rfl, Nat.le_refl _, fun _ _ _ => rfl⟩, by simpa using HR7.out⟩
  case round =>
    obtain ⟨i, hmi, rfl, hg, hr⟩ := hrel
    have HMI := Lib.hid hmi
    have HG := Lib.hid hg
    have HRR := Lib.hid hr
    by_cases hi : i < W.n
    · have hvi := HVI.out i
      have o0 := blk_cell (blk_grown HO7.out hg (by simpa using hOR)) (i := 0) rfl
      have cR := rowF_cell hr hi
      have fR := own_freeAt hr i
      have hiI : (i : Int) < (W.n : Int) := by omega
      have hi0 : (0 : Int) ≤ (i : Int) := by omega
      have HVX := Lib.hid hvi
      clear hmi hg hr cR fR hvi
      go_wp2_with fail
      go_roundg (gk - 1)
      case measure => have := HMI.out; omega
      case rel => exact ⟨i + 1, by have := HMI.out; omega, by go_num, HG.out, by rw [← keep_val HVX.out]; exact HRR.out⟩
    · have hiI : ¬ (i : Int) < (W.n : Int) := by omega
      have hz : ∀ j, j < W.n → (if j < i then V j else false) = satB W (.n0 12 0) j := fun j hj => by rw [if_pos (by omega)]; exact congrFun HVS.out j
      have HEND := Lib.hid (HM.out.fin rfl hpl (Below.grown HB7.out hg (Nat.le_of_lt (HR7.out.lt _ rfl).2) (fun k hk => by injection hk with hk; omega)) hr HS.out.sub hz)
      clear hz hmi hg hr
      go_wp2
      go_end0
      exact ⟨rfl, HEND.out⟩
end Go.Proofs.YtciihiiacbnimaaGreatDoor

namespace Go.Proofs.YtciihiiacbnimaaGreatDoor
open Go.RowKit
set_option maxRecDepth 100000 in
set_option maxHeartbeats 8000000 in
theorem fill_not (W2 w : World) (T RB p : Nat) (l : List Op2) (es : List Int) (S : List Tm) (W : Wd) (af ae aL : Option Addr) (cf ce cL : Nat) (vs : List Value) (props : Nat) (a : Tm)
    (hI : FIn W2 l es S W af ae cf ce vs props) (hM : TMem W2 w T RB l.length (.slice af l.length cf) (.slice ae es.length ce) aL cL vs W S (p + 1)) (hS : SubAt l es S p (.n1 10 0 a)) :
    Calls Tryz.prog 55 #[.pointer (some ⟨T, 0, none⟩), .int .i64 (p : Int)] w fun e w' => e = .returned (.tuple #[]) ∧ TMem W2 w' T RB l.length (.slice af l.length cf) (.slice ae es.length ce) aL cL vs W S p := by
  obtain ⟨hpl, hpe⟩ := List.getElem?_eq_some_iff.1 hS.op
  obtain ⟨RA, cA, nT, nB, oA⟩ := hM.rows (p + 1) a (Nat.le_refl _) (hS.one _ _ _ rfl)
  have hp1 : p + 1 < l.length := by have := (List.getElem?_eq_some_iff.1 (hS.one _ _ _ rfl)).1; rw [hI.sl] at this; exact this
  obtain ⟨xs, hxs⟩ := hM.rb
  have hxl : xs.length = l.length := by simpa using hxs.1
  have cP := own_cellAt hxs (i := p) (by omega)
  have fP := own_freeAt hxs p
  have c2 : w.cell? ⟨T, 2, none⟩ = some (.slice aL W.n cL) := blk_cell hM.tb (i := 2) rfl
  have c4 : w.cell? ⟨T, 4, none⟩ = some (.slice (some ⟨RB, 0, none⟩) l.length l.length) := blk_cell hM.tb (i := 4) rfl
  obtain ⟨bb, off, hb, hc⟩ := hI.rl.ops
  obtain rfl := hb (by omega)
  obtain ⟨k1, k2⟩ := hc p hpl
  rw [hpe] at k1 k2
  simp only [Tm.kd, Tm.vl] at k1 k2
  have HK1 := Lib.hid k1
  have HK2 := Lib.hid k2
  have hTlt : T < w.heap.size := blk_lt hM.tb
  have hTRB : T ≠ RB := hM.ne
  have hpI : (p : Int) < (l.length : Int) := by omega
  have hp0 : (0 : Int) ≤ (p : Int) := by omega
  have hp1I : (p : Int) + 1 < (l.length : Int) := by omega
  have hp10 : (0 : Int) ≤ (p : Int) + 1 := by omega
  have hto : ((p : Int) + 1).toNat = p + 1 := by omega
  have hRAlt : RA < w.heap.size := (oA.lt RA rfl).2
  have HOA := Lib.hid oA
  have HCA := Lib.hid cA
  clear oA cA
  have hn24 := hI.n24
  have hl60 := hI.l60
  have HI := Lib.hid hI
  have HM := Lib.hid hM
  have HS := Lib.hid hS
  have HXS := Lib.hid hxs
  have hlo := hM.lo
  clear hb hc hI hS hxs hpe hM k1 k2
  go_enter Tryz.func55, Tryz.ntmps55
  go_wp2_with (at_make; go_must (refine wpList_make_full _ rfl _ _ 53 rfl W2.heap.size 4 (Tryz.slBools.inf.choose) (.bool false) 1 Tryz.underlying53 Tryz.slBools.inf.choose_spec.1 Tryz.slBools.inf.choose_spec.2.1 Tryz.slBools.inf.choose_spec.2.2.1 .i64 .i64 W.n W.n W.n rfl rfl rfl rfl (by rw [Tryz.slBools.inf.choose_spec.2.2.2]; omega) (by unfold maxLen; omega) HM.out.ext.size ?_))
  intro w1 hown1 hg1
  have hE1 : Ext w w1 := (Ext.refl w).grown hg1 (Nat.le_refl _) (by simp)
  have hmx : (madeCells #[Value.bool false] W.n).toList = rowF W.n (fun _ => false) := by
    rw [toList_madeCells_one, rowF]
    apply List.ext_getElem?
    intro j
    by_cases h : j < W.n <;> simp [h]
  rw [hmx] at hown1
  obtain ⟨hB5, hR5, hA5, hB5', hw1⟩ := mid_world HM.out hE1 hown1 rfl
  have HB5 := Lib.hid hB5
  have HR5 := Lib.hid hR5
  have HA5 := Lib.hid hA5
  have HBB5 := Lib.hid hB5'
  have d4 := cell_later hE1 c4
  have dP := cell_later hE1 cP
  have gP : w1.frozen? ⟨RB, p, none⟩ = false := own_freeAt (own_ext HXS.out hE1) p
  clear hmx hown1 hg1 hE1 c2 c4 cP fP hB5 hR5 hA5 hB5'
  go_upto_region 2 with fail
  clear d4 dP gP
  go_upto_region 3 with fail
  generalize ((w1.setCell ⟨RB, p, none⟩ (.slice (some ⟨w.heap.size, 0, none⟩) W.n W.n)).alloc (Obj.cells #[.slice none 0 0] 53)).alloc (Obj.cells #[.slice none 0 0] 53) = w5 at *
  generalize w1.heap.size = A at *
  have c0 : w5.cell? ⟨T, 0, none⟩ = some (.slice (some ⟨bb, off, none⟩) l.length cf) := blk_cell (HM.out.tbl HB5.out) (i := 0) rfl
  have k1 := cell_later (HM.out.extX HB5.out) HK1.out
  have HPA := Lib.hid (show Calls Tryz.prog 84 #[.int .i64 10] w5 fun e w' => e = .returned (.tuple #[.int .i64 1, .int .i64 0]) ∧ w5 = w' from parts_good 10 w5 (HI.out.tab.ext (HM.out.extX HB5.out)) (by omega) (by omega))
  go_wp2_with fail
  refine HPA.out.mono ?_
  rintro e wq ⟨rfl, rfl⟩
  clear HPA c0 k1
  have c4 : w5.cell? ⟨T, 4, none⟩ = some (.slice (some ⟨RB, 0, none⟩) l.length l.length) := blk_cell (HM.out.tbl HB5.out) (i := 4) rfl
  have cA := HM.out.rowC HB5.out HCA.out (by omega)
  have a0 := blk_cell HA5.out (i := 0) rfl
  have fA := blk_free HA5.out 0
  go_upto_region 8 with fail
  have HB6 := Lib.hid (Below.setCell HB5.out (p := ⟨A, 0, none⟩) (by simp; omega) (.slice (some ⟨RA, 0, none⟩) W.n W.n))
  have HR6 := Lib.hid (own_setCell HR5.out (p := ⟨A, 0, none⟩) (.slice (some ⟨RA, 0, none⟩) W.n W.n) (by simp [Value.ownBlock]; omega))
  have hA6 := blk_set HA5.out (i := 0) (.slice (some ⟨RA, 0, none⟩) W.n W.n)
  generalize w5.setCell ⟨A, 0, none⟩ (.slice (some ⟨RA, 0, none⟩) W.n W.n) = w6 at *
  have HA6 : Hid (w6.heap[A]? = some (.cells #[.slice (some ⟨RA, 0, none⟩) W.n W.n] 53 (0, 0))) := Lib.hid hA6
  clear c4 cA a0 fA hA6 HB5 HR5 HA5 HBB5
  have c0 : w6.cell? ⟨T, 0, none⟩ = some (.slice (some ⟨bb, off, none⟩) l.length cf) := blk_cell (HM.out.tbl HB6.out) (i := 0) rfl
  have k1 := cell_later (HM.out.extX HB6.out) HK1.out
  have k2 := cell_later (HM.out.extX HB6.out) HK2.out
  go_upto_region 9 with fail
  clear c0 k1 k2
  have hx6 := ext_al (Ext.refl w6) (Obj.cells #[.int .i64 10, .int .i64 0] 102)
  have hO7 := blk_new w6 (Obj.cells #[.int .i64 10, .int .i64 0] 102)
  have hwle : w.heap.size < w6.heap.size := (HR6.out.lt _ rfl).2
  have HB7 := Lib.hid (Below.trans HB6.out (Below.mono hx6 (Nat.le_of_lt hwle)))
  have HR7 := Lib.hid (own_ext HR6.out hx6)
  have HA7 := Lib.hid (blk_ext HA6.out hx6)
  generalize w6.alloc (Obj.cells #[.int .i64 10, .int .i64 0] 102) = w7 at *
  have hOR : w6.heap.size ≠ w.heap.size := by omega
  generalize w6.heap.size = O at *
  have HO7 := Lib.hid hO7
  have o0 := blk_cell hO7 (i := 0) rfl
  clear hx6 hO7 HB6 HR6 HA6
  obtain ⟨V, hV⟩ : ∃ V : Nat → Bool, V = satB W (.n1 10 0 a) := ⟨_, rfl⟩
  have HVS := Lib.hid hV
  have HVI := Lib.hid fun i => (congrFun hV i).trans (satB_not W 0 a i)
  clear hV
  go_upto_region 10 with fail
  clear o0
  go_wp2_with fail
  go_loopg [73] W.n (fun m x wr => ∃ i : Nat, m + i = W.n ∧ x = .int .i64 (i : Int) ∧ w7.grownBy wr (some w.heap.size) ∧ wr.ownsRow W2.heap.size 4 1 (.slice (some ⟨w.heap.size, 0, none⟩) W.n W.n) W.n (rowF W.n fun j => if j < i then V j else false))
  case atStart => exact ⟨0, by omega, by go_num, ⟨rfl, rfl, rfl, Nat.le_refl _, fun _ _ _ => rfl⟩, by simpa using HR7.out⟩
  case round =>
    obtain ⟨i, hmi, rfl, hg, hr⟩ := hrel
    have HMI := Lib.hid hmi
    have HG := Lib.hid hg
    have HRR := Lib.hid hr
    by_cases hi : i < W.n
    · have hvi := HVI.out i
      have o0 := blk_cell (blk_grown HO7.out hg (by simpa using hOR)) (i := 0) rfl
      have cR := rowF_cell hr hi
      have fR := own_freeAt hr i
      have hiI : (i : Int) < (W.n : Int) := by omega
      have hi0 : (0 : Int) ≤ (i : Int) := by omega
      have a0 := blk_cell (blk_grown HA7.out hg (by simp; omega)) (i := 0) rfl
      have ca := hg.cell (rowF_cell (ownX HB7.out HOA.out nB) hi) (by simp; omega)
      generalize satB W a i = x at *
      have HVX := Lib.hid hvi
      clear hmi hg hr hvi
      go_wp2_with fail
      go_roundg (gk - 1)
      case measure => have := HMI.out; omega
      case rel => exact ⟨i + 1, by have := HMI.out; omega, by go_num, grown_st HG.out, by have h := own_setAt HRR.out (i := i) (.bool (V i)); rw [rowF_set, upd_val] at h; first | exact h | (rw [HVX.out] at h; exact h)⟩
    · have hiI : ¬ (i : Int) < (W.n : Int) := by omega
      have hz : ∀ j, j < W.n → (if j < i then V j else false) = satB W (.n1 10 0 a) j := fun j hj => by rw [if_pos (by omega)]; exact congrFun HVS.out j
      have HEND := Lib.hid (HM.out.fin rfl hpl (Below.grown HB7.out hg (Nat.le_of_lt (HR7.out.lt _ rfl).2) (fun k hk => by injection hk with hk; omega)) hr HS.out.sub hz)
      clear hz hmi hg hr
      go_wp2
      go_end0
      exact ⟨rfl, HEND.out⟩
set_option maxRecDepth 100000 in
set_option maxHeartbeats 8000000 in
theorem fill_next (W2 w : World) (T RB p : Nat) (l : List Op2) (es : List Int) (S : List Tm) (W : Wd) (af ae aL : Option Addr) (cf ce cL : Nat) (vs : List Value) (props : Nat) (a : Tm)
    (hI : FIn W2 l es S W af ae cf ce vs props) (hM : TMem W2 w T RB l.length (.slice af l.length cf) (.slice ae es.length ce) aL cL vs W S (p + 1)) (hS : SubAt l es S p (.n1 14 0 a)) :
    Calls Tryz.prog 55 #[.pointer (some ⟨T, 0, none⟩), .int .i64 (p : Int)] w fun e w' => e = .returned (.tuple #[]) ∧ TMem W2 w' T RB l.length (.slice af l.length cf) (.slice ae es.length ce) aL cL vs W S p := by
  obtain ⟨hpl, hpe⟩ := List.getElem?_eq_some_iff.1 hS.op
  obtain ⟨RA, cA, nT, nB, oA⟩ := hM.rows (p + 1) a (Nat.le_refl _) (hS.one _ _ _ rfl)
  have hp1 : p + 1 < l.length := by have := (List.getElem?_eq_some_iff.1 (hS.one _ _ _ rfl)).1; rw [hI.sl] at this; exact this
  obtain ⟨xs, hxs⟩ := hM.rb
  have hxl : xs.length = l.length := by simpa using hxs.1
  have cP := own_cellAt hxs (i := p) (by omega)
  have fP := own_freeAt hxs p
  have c2 : w.cell? ⟨T, 2, none⟩ = some (.slice aL W.n cL) := blk_cell hM.tb (i := 2) rfl
  have c4 : w.cell? ⟨T, 4, none⟩ = some (.slice (some ⟨RB, 0, none⟩) l.length l.length) := blk_cell hM.tb (i := 4) rfl
  obtain ⟨bb, off, hb, hc⟩ := hI.rl.ops
  obtain rfl := hb (by omega)
  obtain ⟨k1, k2⟩ := hc p hpl
  rw [hpe] at k1 k2
  simp only [Tm.kd, Tm.vl] at k1 k2
  have HK1 := Lib.hid k1
  have HK2 := Lib.hid k2
  have hTlt : T < w.heap.size := blk_lt hM.tb
  have hTRB : T ≠ RB := hM.ne
  have hpI : (p : Int) < (l.length : Int) := by omega
  have hp0 : (0 : Int) ≤ (p : Int) := by omega
  have hp1I : (p : Int) + 1 < (l.length : Int) := by omega
  have hp10 : (0 : Int) ≤ (p : Int) + 1 := by omega
  have hto : ((p : Int) + 1).toNat = p + 1 := by omega
  have hRAlt : RA < w.heap.size := (oA.lt RA rfl).2
  have HOA := Lib.hid oA
  have HCA := Lib.hid cA
  clear oA cA
  have hn24 := hI.n24
  have hl60 := hI.l60
  have HI := Lib.hid hI
  have HM := Lib.hid hM
  have HS := Lib.hid hS
  have HXS := Lib.hid hxs
  have hlo := hM.lo
  clear hb hc hI hS hxs hpe hM k1 k2
  go_enter Tryz.func55, Tryz.ntmps55
  go_wp2_with (at_make; go_must (refine wpList_make_full _ rfl _ _ 53 rfl W2.heap.size 4 (Tryz.slBools.inf.choose) (.bool false) 1 Tryz.underlying53 Tryz.slBools.inf.choose_spec.1 Tryz.slBools.inf.choose_spec.2.1 Tryz.slBools.inf.choose_spec.2.2.1 .i64 .i64 W.n W.n W.n rfl rfl rfl rfl (by rw [Tryz.slBools.inf.choose_spec.2.2.2]; omega) (by unfold maxLen; omega) HM.out.ext.size ?_))
  intro w1 hown1 hg1
  have hE1 : Ext w w1 := (Ext.refl w).grown hg1 (Nat.le_refl _) (by simp)
  have hmx : (madeCells #[Value.bool false] W.n).toList = rowF W.n (fun _ => false) := by
    rw [toList_madeCells_one, rowF]
    apply List.ext_getElem?
    intro j
    by_cases h : j < W.n <;> simp [h]
  rw [hmx] at hown1
  obtain ⟨hB5, hR5, hA5, hB5', hw1⟩ := mid_world HM.out hE1 hown1 rfl
  have HB5 := Lib.hid hB5
  have HR5 := Lib.hid hR5
  have HA5 := Lib.hid hA5
  have HBB5 := Lib.hid hB5'
  have d4 := cell_later hE1 c4
  have dP := cell_later hE1 cP
  have gP : w1.frozen? ⟨RB, p, none⟩ = false := own_freeAt (own_ext HXS.out hE1) p
  clear hmx hown1 hg1 hE1 c2 c4 cP fP hB5 hR5 hA5 hB5'
  go_upto_region 2 with fail
  clear d4 dP gP
  go_upto_region 3 with fail
  generalize ((w1.setCell ⟨RB, p, none⟩ (.slice (some ⟨w.heap.size, 0, none⟩) W.n W.n)).alloc (Obj.cells #[.slice none 0 0] 53)).alloc (Obj.cells #[.slice none 0 0] 53) = w5 at *
  generalize w1.heap.size = A at *
  have c0 : w5.cell? ⟨T, 0, none⟩ = some (.slice (some ⟨bb, off, none⟩) l.length cf) := blk_cell (HM.out.tbl HB5.out) (i := 0) rfl
  have k1 := cell_later (HM.out.extX HB5.out) HK1.out
  have HPA := Lib.hid (show Calls Tryz.prog 84 #[.int .i64 14] w5 fun e w' => e = .returned (.tuple #[.int .i64 1, .int .i64 0]) ∧ w5 = w' from parts_good 14 w5 (HI.out.tab.ext (HM.out.extX HB5.out)) (by omega) (by omega))
  go_wp2_with fail
  refine HPA.out.mono ?_
  rintro e wq ⟨rfl, rfl⟩
  clear HPA c0 k1
  have c4 : w5.cell? ⟨T, 4, none⟩ = some (.slice (some ⟨RB, 0, none⟩) l.length l.length) := blk_cell (HM.out.tbl HB5.out) (i := 4) rfl
  have cA := HM.out.rowC HB5.out HCA.out (by omega)
  have a0 := blk_cell HA5.out (i := 0) rfl
  have fA := blk_free HA5.out 0
  go_upto_region 8 with fail
  have HB6 := Lib.hid (Below.setCell HB5.out (p := ⟨A, 0, none⟩) (by simp; omega) (.slice (some ⟨RA, 0, none⟩) W.n W.n))
  have HR6 := Lib.hid (own_setCell HR5.out (p := ⟨A, 0, none⟩) (.slice (some ⟨RA, 0, none⟩) W.n W.n) (by simp [Value.ownBlock]; omega))
  have hA6 := blk_set HA5.out (i := 0) (.slice (some ⟨RA, 0, none⟩) W.n W.n)
  generalize w5.setCell ⟨A, 0, none⟩ (.slice (some ⟨RA, 0, none⟩) W.n W.n) = w6 at *
  have HA6 : Hid (w6.heap[A]? = some (.cells #[.slice (some ⟨RA, 0, none⟩) W.n W.n] 53 (0, 0))) := Lib.hid hA6
  clear c4 cA a0 fA hA6 HB5 HR5 HA5 HBB5
  have c0 : w6.cell? ⟨T, 0, none⟩ = some (.slice (some ⟨bb, off, none⟩) l.length cf) := blk_cell (HM.out.tbl HB6.out) (i := 0) rfl
  have k1 := cell_later (HM.out.extX HB6.out) HK1.out
  have k2 := cell_later (HM.out.extX HB6.out) HK2.out
  go_upto_region 9 with fail
  clear c0 k1 k2
  have hx6 := ext_al (Ext.refl w6) (Obj.cells #[.int .i64 14, .int .i64 0] 102)
  have hO7 := blk_new w6 (Obj.cells #[.int .i64 14, .int .i64 0] 102)
  have hwle : w.heap.size < w6.heap.size := (HR6.out.lt _ rfl).2
  have HB7 := Lib.hid (Below.trans HB6.out (Below.mono hx6 (Nat.le_of_lt hwle)))
  have HR7 := Lib.hid (own_ext HR6.out hx6)
  have HA7 := Lib.hid (blk_ext HA6.out hx6)
  generalize w6.alloc (Obj.cells #[.int .i64 14, .int .i64 0] 102) = w7 at *
  have hOR : w6.heap.size ≠ w.heap.size := by omega
  generalize w6.heap.size = O at *
  have HO7 := Lib.hid hO7
  have o0 := blk_cell hO7 (i := 0) rfl
  clear hx6 hO7 HB6 HR6 HA6
  obtain ⟨V, hV⟩ : ∃ V : Nat → Bool, V = satB W (.n1 14 0 a) := ⟨_, rfl⟩
  have HVS := Lib.hid hV
  have HVI := Lib.hid fun i => (congrFun hV i).trans (satB_next W 0 a i)
  clear hV
  go_upto_region 10 with fail
  clear o0
  go_wp2_with fail
  go_loopg [73] W.n (fun m x wr => ∃ i : Nat, m + i = W.n ∧ x = .int .i64 (i : Int) ∧ w7.grownBy wr (some w.heap.size) ∧ wr.ownsRow W2.heap.size 4 1 (.slice (some ⟨w.heap.size, 0, none⟩) W.n W.n) W.n (rowF W.n fun j => if j < i then V j else false))
  case atStart => exact ⟨0, by omega, by go_num, ⟨rfl, rfl, rfl, Nat.le_refl _, fun _ _ _ => rfl⟩, by simpa using HR7.out⟩
  case round =>
    obtain ⟨i, hmi, rfl, hg, hr⟩ := hrel
    have HMI := Lib.hid hmi
    have HG := Lib.hid hg
    have HRR := Lib.hid hr
    by_cases hi : i < W.n
    · have hvi := HVI.out i
      have o0 := blk_cell (blk_grown HO7.out hg (by simpa using hOR)) (i := 0) rfl
      have cR := rowF_cell hr hi
      have fR := own_freeAt hr i
      have hiI : (i : Int) < (W.n : Int) := by omega
      have hi0 : (0 : Int) ≤ (i : Int) := by omega
      have a0 := blk_cell (blk_grown HA7.out hg (by simp; omega)) (i := 0) rfl
      have hnx := nxt_lt (i := i) HI.out.bk
      have ca := hg.cell (rowF_cell (ownX HB7.out HOA.out nB) hnx) (by simp; omega)
      have HBH := Lib.hid (fun wx (hx : Ext wr wx) => behind_any wx T _ _ _ aL W.n cL W.back i (blk_ext (blk_grown (HM.out.tbl HB7.out) hg (by simp; omega)) hx) (by omega))
      have hnI : ((nxt W.n W.back i : Nat) : Int) < (W.n : Int) := by omega
      have hnI0 : (0 : Int) ≤ ((nxt W.n W.back i : Nat) : Int) := by omega
      generalize satB W a (nxt W.n W.back i) = x at *
      generalize nxt W.n W.back i = k at *
      have HVX := Lib.hid hvi
      clear hmi hg hr hvi hnx
      go_upto_region 25 with fail
      go_region_law (go_simp
                     go_at_call 90
                     refine (HBH.out _ (by first | exact Ext.refl _ | exact Below.drew (Ext.refl _))).mono ?_
                     rintro e wq ⟨rfl, rfl⟩)
      all_goals
        go_wp2_with fail
        go_roundg (gk - 1)
        case measure => have := HMI.out; omega
        case rel => exact ⟨i + 1, by have := HMI.out; omega, by go_num, by first | exact grown_st HG.out | exact (grown_st HG.out).later_drew _, by have h := own_setAt HRR.out (i := i) (.bool (V i)); rw [rowF_set, upd_val] at h; first | exact h | exact own_ext h (Below.drew (Ext.refl _)) | (rw [HVX.out] at h; exact h)⟩
    · have hiI : ¬ (i : Int) < (W.n : Int) := by omega
      have hz : ∀ j, j < W.n → (if j < i then V j else false) = satB W (.n1 14 0 a) j := fun j hj => by rw [if_pos (by omega)]; exact congrFun HVS.out j
      have HEND := Lib.hid (HM.out.fin rfl hpl (Below.grown HB7.out hg (Nat.le_of_lt (HR7.out.lt _ rfl).2) (fun k hk => by injection hk with hk; omega)) hr HS.out.sub hz)
      clear hz hmi hg hr
      go_wp2
      go_end0
      exact ⟨rfl, HEND.out⟩
set_option maxRecDepth 100000 in
set_option maxHeartbeats 8000000 in
theorem fill_fin (W2 w : World) (T RB p : Nat) (l : List Op2) (es : List Int) (S : List Tm) (W : Wd) (af ae aL : Option Addr) (cf ce cL : Nat) (vs : List Value) (props : Nat) (a : Tm)
    (hI : FIn W2 l es S W af ae cf ce vs props) (hM : TMem W2 w T RB l.length (.slice af l.length cf) (.slice ae es.length ce) aL cL vs W S (p + 1)) (hS : SubAt l es S p (.n1 17 0 a)) :
    Calls Tryz.prog 55 #[.pointer (some ⟨T, 0, none⟩), .int .i64 (p : Int)] w fun e w' => e = .returned (.tuple #[]) ∧ TMem W2 w' T RB l.length (.slice af l.length cf) (.slice ae es.length ce) aL cL vs W S p := by
  obtain ⟨hpl, hpe⟩ := List.getElem?_eq_some_iff.1 hS.op
  obtain ⟨RA, cA, nT, nB, oA⟩ := hM.rows (p + 1) a (Nat.le_refl _) (hS.one _ _ _ rfl)
  have hp1 : p + 1 < l.length := by have := (List.getElem?_eq_some_iff.1 (hS.one _ _ _ rfl)).1; rw [hI.sl] at this; exact this
  obtain ⟨xs, hxs⟩ := hM.rb
  have hxl : xs.length = l.length := by simpa using hxs.1
  have cP := own_cellAt hxs (i := p) (by omega)
  have fP := own_freeAt hxs p
  have c2 : w.cell? ⟨T, 2, none⟩ = some (.slice aL W.n cL) := blk_cell hM.tb (i := 2) rfl
  have c4 : w.cell? ⟨T, 4, none⟩ = some (.slice (some ⟨RB, 0, none⟩) l.length l.length) := blk_cell hM.tb (i := 4) rfl
  obtain ⟨bb, off, hb, hc⟩ := hI.rl.ops
  obtain rfl := hb (by omega)
  obtain ⟨k1, k2⟩ := hc p hpl
  rw [hpe] at k1 k2
  simp only [Tm.kd, Tm.vl] at k1 k2
  have HK1 := Lib.hid k1
  have HK2 := Lib.hid k2
  have hTlt : T < w.heap.size := blk_lt hM.tb
  have hTRB : T ≠ RB := hM.ne
  have hpI : (p : Int) < (l.length : Int) := by omega
  have hp0 : (0 : Int) ≤ (p : Int) := by omega
  have hp1I : (p : Int) + 1 < (l.length : Int) := by omega
  have hp10 : (0 : Int) ≤ (p : Int) + 1 := by omega
  have hto : ((p : Int) + 1).toNat = p + 1 := by omega
  have hRAlt : RA < w.heap.size := (oA.lt RA rfl).2
  have HOA := Lib.hid oA
  have HCA := Lib.hid cA
  clear oA cA
  have hn24 := hI.n24
  have hl60 := hI.l60
  have HI := Lib.hid hI
  have HM := Lib.hid hM
  have HS := Lib.hid hS
  have HXS := Lib.hid hxs
  have hlo := hM.lo
  clear hb hc hI hS hxs hpe hM k1 k2
  go_enter Tryz.func55, Tryz.ntmps55
  go_wp2_with (at_make; go_must (refine wpList_make_full _ rfl _ _ 53 rfl W2.heap.size 4 (Tryz.slBools.inf.choose) (.bool false) 1 Tryz.underlying53 Tryz.slBools.inf.choose_spec.1 Tryz.slBools.inf.choose_spec.2.1 Tryz.slBools.inf.choose_spec.2.2.1 .i64 .i64 W.n W.n W.n rfl rfl rfl rfl (by rw [Tryz.slBools.inf.choose_spec.2.2.2]; omega) (by unfold maxLen; omega) HM.out.ext.size ?_))
  intro w1 hown1 hg1
  have hE1 : Ext w w1 := (Ext.refl w).grown hg1 (Nat.le_refl _) (by simp)
  have hmx : (madeCells #[Value.bool false] W.n).toList = rowF W.n (fun _ => false) := by
    rw [toList_madeCells_one, rowF]
    apply List.ext_getElem?
    intro j
    by_cases h : j < W.n <;> simp [h]
  rw [hmx] at hown1
  obtain ⟨hB5, hR5, hA5, hB5', hw1⟩ := mid_world HM.out hE1 hown1 rfl
  have HB5 := Lib.hid hB5
  have HR5 := Lib.hid hR5
  have HA5 := Lib.hid hA5
  have HBB5 := Lib.hid hB5'
  have d4 := cell_later hE1 c4
  have dP := cell_later hE1 cP
  have gP : w1.frozen? ⟨RB, p, none⟩ = false := own_freeAt (own_ext HXS.out hE1) p
  clear hmx hown1 hg1 hE1 c2 c4 cP fP hB5 hR5 hA5 hB5'
  go_upto_region 2 with fail
  clear d4 dP gP
  go_upto_region 3 with fail
  generalize ((w1.setCell ⟨RB, p, none⟩ (.slice (some ⟨w.heap.size, 0, none⟩) W.n W.n)).alloc (Obj.cells #[.slice none 0 0] 53)).alloc (Obj.cells #[.slice none 0 0] 53) = w5 at *
  generalize w1.heap.size = A at *
  have c0 : w5.cell? ⟨T, 0, none⟩ = some (.slice (some ⟨bb, off, none⟩) l.length cf) := blk_cell (HM.out.tbl HB5.out) (i := 0) rfl
  have k1 := cell_later (HM.out.extX HB5.out) HK1.out
  have HPA := Lib.hid (show Calls Tryz.prog 84 #[.int .i64 17] w5 fun e w' => e = .returned (.tuple #[.int .i64 1, .int .i64 0]) ∧ w5 = w' from parts_good 17 w5 (HI.out.tab.ext (HM.out.extX HB5.out)) (by omega) (by omega))
  go_wp2_with fail
  refine HPA.out.mono ?_
  rintro e wq ⟨rfl, rfl⟩
  clear HPA c0 k1
  have c4 : w5.cell? ⟨T, 4, none⟩ = some (.slice (some ⟨RB, 0, none⟩) l.length l.length) := blk_cell (HM.out.tbl HB5.out) (i := 4) rfl
  have cA := HM.out.rowC HB5.out HCA.out (by omega)
  have a0 := blk_cell HA5.out (i := 0) rfl
  have fA := blk_free HA5.out 0
  go_upto_region 8 with fail
  have HB6 := Lib.hid (Below.setCell HB5.out (p := ⟨A, 0, none⟩) (by simp; omega) (.slice (some ⟨RA, 0, none⟩) W.n W.n))
  have HR6 := Lib.hid (own_setCell HR5.out (p := ⟨A, 0, none⟩) (.slice (some ⟨RA, 0, none⟩) W.n W.n) (by simp [Value.ownBlock]; omega))
  have hA6 := blk_set HA5.out (i := 0) (.slice (some ⟨RA, 0, none⟩) W.n W.n)
  generalize w5.setCell ⟨A, 0, none⟩ (.slice (some ⟨RA, 0, none⟩) W.n W.n) = w6 at *
  have HA6 : Hid (w6.heap[A]? = some (.cells #[.slice (some ⟨RA, 0, none⟩) W.n W.n] 53 (0, 0))) := Lib.hid hA6
  clear c4 cA a0 fA hA6 HB5 HR5 HA5 HBB5
  have c0 : w6.cell? ⟨T, 0, none⟩ = some (.slice (some ⟨bb, off, none⟩) l.length cf) := blk_cell (HM.out.tbl HB6.out) (i := 0) rfl
  have k1 := cell_later (HM.out.extX HB6.out) HK1.out
  have k2 := cell_later (HM.out.extX HB6.out) HK2.out
  go_upto_region 9 with fail
  clear c0 k1 k2
  have hx6 := ext_al (Ext.refl w6) (Obj.cells #[.int .i64 17, .int .i64 0] 102)
  have hO7 := blk_new w6 (Obj.cells #[.int .i64 17, .int .i64 0] 102)
  have hwle : w.heap.size < w6.heap.size := (HR6.out.lt _ rfl).2
  have HB7 := Lib.hid (Below.trans HB6.out (Below.mono hx6 (Nat.le_of_lt hwle)))
  have HR7 := Lib.hid (own_ext HR6.out hx6)
  have HA7 := Lib.hid (blk_ext HA6.out hx6)
  generalize w6.alloc (Obj.cells #[.int .i64 17, .int .i64 0] 102) = w7 at *
  have hOR : w6.heap.size ≠ w.heap.size := by omega
  generalize w6.heap.size = O at *
  have HO7 := Lib.hid hO7
  have o0 := blk_cell hO7 (i := 0) rfl
  clear hx6 hO7 HB6 HR6 HA6
  have hcA : ∀ i, i < W.n → w7.cell? ⟨RA, i, none⟩ = some (.bool (satB W a i)) := fun i hi => rowF_cell (ownX HB7.out HOA.out nB) hi
  have HCS := Lib.hid (settle_fin w7 W2.heap.size T w.heap.size W.n W.back p (.slice (some ⟨bb, off, none⟩) l.length cf) (.slice ae es.length ce) aL (some ⟨RB, 0, none⟩) cL l.length l.length RB 0 A RA (fun _ => true) (satB W a) (fun _ => false) (fun _ => rfl) (HM.out.tbl HB7.out) ⟨rfl, hpl, by simpa using HM.out.cellP HB7.out hpl⟩ HR7.out HA7.out hcA ⟨by omega, by omega, by omega⟩ hn24 HI.out.bk (by omega))
  clear hcA
  have hmf : ∀ (fn : Fn) (first cap : Array Value) (w : World), (Instr.makeFunc fn first cap).run Tryz.prog w = .ok (.func fn first cap) w := fun _ _ _ _ => rfl
  go_wp2_with fail
  refine HCS.out.mono ?_
  rintro e w8 ⟨rfl, hg, r, hr, hiff⟩
  have HEND := Lib.hid (HM.out.fin rfl hpl (Below.grown HB7.out hg (Nat.le_of_lt (HR7.out.lt _ rfl).2) (fun k hk => by injection hk with hk; omega)) hr HS.out.sub (fun i hi => Bool.eq_iff_iff.2 (((hiff i hi).trans (until_congr (fun _ => by simp) (fun _ => Iff.rfl) i)).trans (satB_fin W 0 a i).symm)))
  clear hg hr hiff HCS
  go_wp2
  go_end0
  exact ⟨rfl, HEND.out⟩
set_option maxRecDepth 100000 in
set_option maxHeartbeats 8000000 in
theorem fill_glo (W2 w : World) (T RB p : Nat) (l : List Op2) (es : List Int) (S : List Tm) (W : Wd) (af ae aL : Option Addr) (cf ce cL : Nat) (vs : List Value) (props : Nat) (a : Tm)
    (hI : FIn W2 l es S W af ae cf ce vs props) (hM : TMem W2 w T RB l.length (.slice af l.length cf) (.slice ae es.length ce) aL cL vs W S (p + 1)) (hS : SubAt l es S p (.n1 18 0 a)) :
    Calls Tryz.prog 55 #[.pointer (some ⟨T, 0, none⟩), .int .i64 (p : Int)] w fun e w' => e = .returned (.tuple #[]) ∧ TMem W2 w' T RB l.length (.slice af l.length cf) (.slice ae es.length ce) aL cL vs W S p := by
  obtain ⟨hpl, hpe⟩ := List.getElem?_eq_some_iff.1 hS.op
  obtain ⟨RA, cA, nT, nB, oA⟩ := hM.rows (p + 1) a (Nat.le_refl _) (hS.one _ _ _ rfl)
  have hp1 : p + 1 < l.length := by have := (List.getElem?_eq_some_iff.1 (hS.one _ _ _ rfl)).1; rw [hI.sl] at this; exact this
  obtain ⟨xs, hxs⟩ := hM.rb
  have hxl : xs.length = l.length := by simpa using hxs.1
  have cP := own_cellAt hxs (i := p) (by omega)
  have fP := own_freeAt hxs p
  have c2 : w.cell? ⟨T, 2, none⟩ = some (.slice aL W.n cL) := blk_cell hM.tb (i := 2) rfl
  have c4 : w.cell? ⟨T, 4, none⟩ = some (.slice (some ⟨RB, 0, none⟩) l.length l.length) := blk_cell hM.tb (i := 4) rfl
  obtain ⟨bb, off, hb, hc⟩ := hI.rl.ops
  obtain rfl := hb (by omega)
  obtain ⟨k1, k2⟩ := hc p hpl
  rw [hpe] at k1 k2
  simp only [Tm.kd, Tm.vl] at k1 k2
  have HK1 := Lib.hid k1
  have HK2 := Lib.hid k2
  have hTlt : T < w.heap.size := blk_lt hM.tb
  have hTRB : T ≠ RB := hM.ne
  have hpI : (p : Int) < (l.length : Int) := by omega
  have hp0 : (0 : Int) ≤ (p : Int) := by omega
  have hp1I : (p : Int) + 1 < (l.length : Int) := by omega
  have hp10 : (0 : Int) ≤ (p : Int) + 1 := by omega
  have hto : ((p : Int) + 1).toNat = p + 1 := by omega
  have hRAlt : RA < w.heap.size := (oA.lt RA rfl).2
  have HOA := Lib.hid oA
  have HCA := Lib.hid cA
  clear oA cA
  have hn24 := hI.n24
  have hl60 := hI.l60
  have HI := Lib.hid hI
  have HM := Lib.hid hM
  have HS := Lib.hid hS
  have HXS := Lib.hid hxs
  have hlo := hM.lo
  clear hb hc hI hS hxs hpe hM k1 k2
  go_enter Tryz.func55, Tryz.ntmps55
  go_wp2_with (at_make; go_must (refine wpList_make_full _ rfl _ _ 53 rfl W2.heap.size 4 (Tryz.slBools.inf.choose) (.bool false) 1 Tryz.underlying53 Tryz.slBools.inf.choose_spec.1 Tryz.slBools.inf.choose_spec.2.1 Tryz.slBools.inf.choose_spec.2.2.1 .i64 .i64 W.n W.n W.n rfl rfl rfl rfl (by rw [Tryz.slBools.inf.choose_spec.2.2.2]; omega) (by unfold maxLen; omega) HM.out.ext.size ?_))
  intro w1 hown1 hg1
  have hE1 : Ext w w1 := (Ext.refl w).grown hg1 (Nat.le_refl _) (by simp)
  have hmx : (madeCells #[Value.bool false] W.n).toList = rowF W.n (fun _ => false) := by
    rw [toList_madeCells_one, rowF]
    apply List.ext_getElem?
    intro j
    by_cases h : j < W.n <;> simp [h]
  rw [hmx] at hown1
  obtain ⟨hB5, hR5, hA5, hB5', hw1⟩ := mid_world HM.out hE1 hown1 rfl
  have HB5 := Lib.hid hB5
  have HR5 := Lib.hid hR5
  have HA5 := Lib.hid hA5
  have HBB5 := Lib.hid hB5'
  have d4 := cell_later hE1 c4
  have dP := cell_later hE1 cP
  have gP : w1.frozen? ⟨RB, p, none⟩ = false := own_freeAt (own_ext HXS.out hE1) p
  clear hmx hown1 hg1 hE1 c2 c4 cP fP hB5 hR5 hA5 hB5'
  go_upto_region 2 with fail
  clear d4 dP gP
  go_upto_region 3 with fail
  generalize ((w1.setCell ⟨RB, p, none⟩ (.slice (some ⟨w.heap.size, 0, none⟩) W.n W.n)).alloc (Obj.cells #[.slice none 0 0] 53)).alloc (Obj.cells #[.slice none 0 0] 53) = w5 at *
  generalize w1.heap.size = A at *
  have c0 : w5.cell? ⟨T, 0, none⟩ = some (.slice (some ⟨bb, off, none⟩) l.length cf) := blk_cell (HM.out.tbl HB5.out) (i := 0) rfl
  have k1 := cell_later (HM.out.extX HB5.out) HK1.out
  have HPA := Lib.hid (show Calls Tryz.prog 84 #[.int .i64 18] w5 fun e w' => e = .returned (.tuple #[.int .i64 1, .int .i64 0]) ∧ w5 = w' from parts_good 18 w5 (HI.out.tab.ext (HM.out.extX HB5.out)) (by omega) (by omega))
  go_wp2_with fail
  refine HPA.out.mono ?_
  rintro e wq ⟨rfl, rfl⟩
  clear HPA c0 k1
  have c4 : w5.cell? ⟨T, 4, none⟩ = some (.slice (some ⟨RB, 0, none⟩) l.length l.length) := blk_cell (HM.out.tbl HB5.out) (i := 4) rfl
  have cA := HM.out.rowC HB5.out HCA.out (by omega)
  have a0 := blk_cell HA5.out (i := 0) rfl
  have fA := blk_free HA5.out 0
  go_upto_region 8 with fail
  have HB6 := Lib.hid (Below.setCell HB5.out (p := ⟨A, 0, none⟩) (by simp; omega) (.slice (some ⟨RA, 0, none⟩) W.n W.n))
  have HR6 := Lib.hid (own_setCell HR5.out (p := ⟨A, 0, none⟩) (.slice (some ⟨RA, 0, none⟩) W.n W.n) (by simp [Value.ownBlock]; omega))
  have hA6 := blk_set HA5.out (i := 0) (.slice (some ⟨RA, 0, none⟩) W.n W.n)
  generalize w5.setCell ⟨A, 0, none⟩ (.slice (some ⟨RA, 0, none⟩) W.n W.n) = w6 at *
  have HA6 : Hid (w6.heap[A]? = some (.cells #[.slice (some ⟨RA, 0, none⟩) W.n W.n] 53 (0, 0))) := Lib.hid hA6
  clear c4 cA a0 fA hA6 HB5 HR5 HA5 HBB5
  have c0 : w6.cell? ⟨T, 0, none⟩ = some (.slice (some ⟨bb, off, none⟩) l.length cf) := blk_cell (HM.out.tbl HB6.out) (i := 0) rfl
  have k1 := cell_later (HM.out.extX HB6.out) HK1.out
  have k2 := cell_later (HM.out.extX HB6.out) HK2.out
  go_upto_region 9 with fail
  clear c0 k1 k2
  have hx6 := ext_al (Ext.refl w6) (Obj.cells #[.int .i64 18, .int .i64 0] 102)
  have hO7 := blk_new w6 (Obj.cells #[.int .i64 18, .int .i64 0] 102)
  have hwle : w.heap.size < w6.heap.size := (HR6.out.lt _ rfl).2
  have HB7 := Lib.hid (Below.trans HB6.out (Below.mono hx6 (Nat.le_of_lt hwle)))
  have HR7 := Lib.hid (own_ext HR6.out hx6)
  have HA7 := Lib.hid (blk_ext HA6.out hx6)
  generalize w6.alloc (Obj.cells #[.int .i64 18, .int .i64 0] 102) = w7 at *
  have hOR : w6.heap.size ≠ w.heap.size := by omega
  generalize w6.heap.size = O at *
  have HO7 := Lib.hid hO7
  have o0 := blk_cell hO7 (i := 0) rfl
  clear hx6 hO7 HB6 HR6 HA6
  have hcA : ∀ i, i < W.n → w7.cell? ⟨RA, i, none⟩ = some (.bool (satB W a i)) := fun i hi => rowF_cell (ownX HB7.out HOA.out nB) hi
  have HCS := Lib.hid (settle_glo w7 W2.heap.size T w.heap.size W.n W.back p (.slice (some ⟨bb, off, none⟩) l.length cf) (.slice ae es.length ce) aL (some ⟨RB, 0, none⟩) cL l.length l.length RB 0 A RA (fun _ => false) (satB W a) (fun _ => false) (fun _ => rfl) (HM.out.tbl HB7.out) ⟨rfl, hpl, by simpa using HM.out.cellP HB7.out hpl⟩ HR7.out HA7.out hcA ⟨by omega, by omega, by omega⟩ hn24 HI.out.bk (by omega))
  clear hcA
  have hmf : ∀ (fn : Fn) (first cap : Array Value) (w : World), (Instr.makeFunc fn first cap).run Tryz.prog w = .ok (.func fn first cap) w := fun _ _ _ _ => rfl
  go_wp2_with fail
  refine HCS.out.mono ?_
  rintro e w8 ⟨rfl, hg, r, hr, hiff⟩
  have HEND := Lib.hid (HM.out.fin rfl hpl (Below.grown HB7.out hg (Nat.le_of_lt (HR7.out.lt _ rfl).2) (fun k hk => by injection hk with hk; omega)) hr HS.out.sub (fun i hi => Bool.eq_iff_iff.2 (((hiff i hi).trans (rel_congr (fun _ => by simp) (fun _ => Iff.rfl) i)).trans (satB_glo W 0 a i).symm)))
  clear hg hr hiff HCS
  go_wp2
  go_end0
  exact ⟨rfl, HEND.out⟩
end Go.Proofs.YtciihiiacbnimaaGreatDoor
