/- The law StoreRuns. -/
import Derived.Test.YtmacgcaehfjoiaaStH
import Derived.Deep.DeepCutAuto
import Derived.Deep.RegionLaw
namespace Go.Proofs.Ytmacgcaehfjoiaa
open Go.RowKit

theorem tm8 (n : Nat) : (n : Int).tmod 8 = ((n % 8 : Nat) : Int) := rfl
theorem tm7 (n : Nat) : (n : Int).tmod 7 = ((n % 7 : Nat) : Int) := rfl
theorem tmN (n m : Nat) : (n : Int).tmod (m : Int) = ((n % m : Nat) : Int) := rfl

set_option maxRecDepth 100000 in
set_option maxHeartbeats 16000000 in
theorem storeRuns_walk (v : Value) (l : List Int)  (W : World) (h : Ints W v l) (hI : ∀ n ∈ l, I64 n)  :
    Calls Try.prog 3 #[v] W fun e w' => e = .returned (.bool true) ∧ Ext W w' := by
  have HST := Lib.hid (stocked_any v l W h hI)
  obtain ⟨aA, cA, rfl, hrA⟩ := h
  have hlA : l.length ≤ 9223372036854775807 := by have h1 := hrA.le; have h2 := hrA.max; unfold maxLen at h2; omega
  clear hrA hI
  go_enter Try.func3, Try.ntmps3
  go_wp2_with fail
  refine HST.out.mono ?_
  rintro e w1 ⟨lv, rv, kv, s, ks, rfl, hS, hKI, hK, hKb, hK1, hK0, hE1⟩
  obtain ⟨al, cl, ar, cr, rfl, rfl⟩ := hS.val
  obtain ⟨ak, ck, rfl, hrk⟩ := id hKI
  have hkc := hrk.le
  have hkm := hrk.max
  unfold maxLen at hkm
  have hx := ext_al (Ext.refl w1) (Obj.cells #[.slice al s.loose.length cl, .slice ar s.runs.length cr] 25)
  have hb := blk_new w1 (Obj.cells #[.slice al s.loose.length cl, .slice ar s.runs.length cr] 25)
  have HS := Lib.hid (hS.ext hx)
  have HKI := Lib.hid (hKI.ext hx)
  have HB := Lib.hid hb
  have HX := Lib.hid (hE1.trans hx)
  have HK := Lib.hid hK
  have HKB := Lib.hid hKb
  have HK0 := Lib.hid hK0
  have d0 := blk_cell hb (i := 0) rfl
  have d1 := blk_cell hb (i := 1) rfl
  have hlen := hK.len
  have hskl := St.keys_len s
  have hfew := hK.ok.runs_few
  obtain ⟨D, hD⟩ : ∃ D, w1.heap.size = D := ⟨_, rfl⟩
  rw [hD] at HB d0 d1
  have HD := Lib.hid hD
  clear hS hKI hK hKb hK0 hE1 hx hb hrk HST
  go_wp2_with fail
  generalize w1.alloc (Obj.cells #[.slice al s.loose.length cl, .slice ar s.runs.length cr] 25) = W1 at *
  clear hD
  obtain ⟨_, _, _, br, orr, har, hcr⟩ := HS.out.ru.cells
  have HAR := Lib.hid har
  have HCR := Lib.hid hcr
  have HM0 := Lib.hid (show s.loose.length = s.loose.length + manyL s.runs 0 by simp [manyL])
  have HML := Lib.hid fun i => manyL_le s.runs i
  have HMS := Lib.hid fun (i : Nat) (hi : i < s.runs.length) => manyL_succ hi
  have HMA := Lib.hid HK.out.many
  have HPO := Lib.hid fun (i : Nat) (hi : i < s.runs.length) => HK.out.ok.run_pos (List.getElem_mem hi)
  have HDN := Lib.hid fun (i j : Nat) (hi : i < s.runs.length) (hj : j < s.runs.length) (h : i < j) => List.pairwise_iff_getElem.1 HK.out.ok.runs_down i j hi hj h
  clear har hcr
  go_loopg [7, 6] s.runs.length (fun k x y wr => ∃ i : Nat, k + i = s.runs.length ∧ x = .int .i64 (i : Int) ∧ y = .int .i64 ((s.loose.length + manyL s.runs i : Nat) : Int) ∧ Ext W1 wr)
  case atStart => exact ⟨0, by omega, by go_num, by rw [← HM0.out], Ext.refl _⟩
  case round =>
    obtain ⟨i, hki, rfl, rfl, hE⟩ := hrel
    have HKI2 := Lib.hid hki
    have HEE := Lib.hid hE
    have d0 := cell_later hE d0
    have d1 := cell_later hE d1
    by_cases hi : i < s.runs.length
    · obtain rfl := HAR.out (by omega)
      obtain ⟨ai, ci, cx, _⟩ := HCR.out i hi
      have cx := cell_later hE cx
      obtain ⟨p1, p2⟩ := HPO.out i hi
      have hms := HMS.out i hi
      have hml := HML.out (i + 1)
      have hiI : (i : Int) < (s.runs.length : Int) := by omega
      have hi0 : (0 : Int) ≤ (i : Int) := by omega
      have HDI := Lib.hid fun (j : Nat) (hj : j < i) => HDN.out j i (Nat.lt_trans hj hi) hi hj
      obtain ⟨r, hr⟩ : ∃ r, s.runs[i] = r := ⟨_, rfl⟩
      rw [hr] at cx p1 p2 hms HDI
      obtain ⟨nr, hnr⟩ : ∃ x, r.length = x := ⟨_, rfl⟩
      rw [hnr] at cx p1 p2 hms HDI
      obtain ⟨ml, hmm⟩ : ∃ x, s.loose.length + manyL s.runs i = x := ⟨_, rfl⟩
      have hmm2 : ml + nr = s.loose.length + manyL s.runs (i + 1) := by omega
      rw [hmm]
      have HMM := Lib.hid hmm2
      have t1 : IntKind.i64.wrap ((ml : Int) + (nr : Int)) = ((ml + nr : Nat) : Int) := (IntWalk.i64_in _ (by omega)).trans (by omega)
      have t2 : ((nr : Int).tmod 8 == 0) = true := by rw [beq_iff_eq, tm8]; omega
      have t3 : (nr : Int).tmod 8 = 0 := by rw [tm8]; omega
      clear hki hE hr hnr hmm hmm2 hms
      go_upto_region 7 with fail
      by_cases hz : i = 0
      · have q0 : ¬ 0 < i := by omega
        have q1 : decide ((0 : Int) < (i : Int)) = false := by rw [decide_eq_false_iff_not]; omega
        have q2 : decide (0 < i) = false := by rw [decide_eq_false_iff_not]; omega
        clear hz
        go_quiet (fail)
        clear q1 q2
        go_wp2_with fail
        go_roundg (gk - 1)
        case measure => have := HKI2.out; omega
        case rel => exact ⟨i + 1, by have := HKI2.out; omega, by go_num, by rw [← HMM.out]; simp, below_drewN HEE.out _⟩
      · obtain ⟨j, hj⟩ : ∃ j, i = j + 1 := ⟨i - 1, by omega⟩
        have hjl : j < s.runs.length := by omega
        obtain ⟨aj, cj, cy, _⟩ := HCR.out j hjl
        have cy := cell_later HEE.out cy
        have hd := HDI.out j (by omega)
        obtain ⟨nj, hnj⟩ : ∃ x, s.runs[j].length = x := ⟨_, rfl⟩
        rw [hnj] at cy hd
        have q0 : 0 < i := by omega
        have q1 : decide ((0 : Int) < (i : Int)) = true := by rw [decide_eq_true_eq]; omega
        have q2 : decide (0 < i) = true := by rw [decide_eq_true_eq]; omega
        have q3 : decide ((nj : Int) ≤ (nr : Int)) = false := by rw [decide_eq_false_iff_not]; omega
        have q4 : decide (nj ≤ nr) = false := by rw [decide_eq_false_iff_not]; omega
        have q5 : ¬ nj ≤ nr := by omega
        have t4 : IntKind.i64.wrap ((i : Int) - 1) = (j : Int) := (IntWalk.i64_in _ (by omega)).trans (by omega)
        have hjI : (j : Int) < (s.runs.length : Int) := by omega
        have hj0 : (0 : Int) ≤ (j : Int) := by omega
        clear hz hj hd hnj
        go_quiet (fail)
        clear q1 q2 q3 q4
        go_wp2_with fail
        go_roundg (gk - 1)
        case measure => have := HKI2.out; omega
        case rel => exact ⟨i + 1, by have := HKI2.out; omega, by go_num, by rw [← HMM.out]; simp, below_drewN HEE.out _⟩
    · obtain rfl : i = s.runs.length := by have := HKI2.out; omega
      have hiI : ¬ (s.runs.length : Int) < (s.runs.length : Int) := by omega
      have hlo := HK.out.ok.lo
      rw [hlen] at hlo
      have t3 : ((ks.length : Int).tmod 8) = (s.loose.length : Int) := by rw [tm8]; omega
      rw [HMA.out]
      clear hki hE hlo
      go_wp2
      go_ret
      exact ⟨rfl, HX.out.trans HEE.out⟩

theorem storeRuns_law (v0 : Value) (W : World) (h0 : Cells Try.prog W 22 [v0]) :
    Calls Try.prog 3 #[v0] W fun e w' => e = .returned (.bool true) ∧ Ext W w' := by
  obtain ⟨v, l, e0, hl, hI⟩ := h0.ints Try.underlying22 Try.underlying3 (by kernel_rfl)
  cases e0
  exact storeRuns_walk _ l  W hl hI 

end Go.Proofs.Ytmacgcaehfjoiaa
