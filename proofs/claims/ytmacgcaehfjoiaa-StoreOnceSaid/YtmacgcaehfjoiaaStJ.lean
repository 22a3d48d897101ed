/- The law StoreOnce. -/
import Derived.Test.YtmacgcaehfjoiaaStH
import Derived.Deep.DeepCutAuto
import Derived.Deep.RegionLaw
namespace Go.Proofs.Ytmacgcaehfjoiaa
open Go.RowKit

set_option maxRecDepth 100000 in
set_option maxHeartbeats 16000000 in
theorem storeOnce_walk (v : Value) (l : List Int) (other : Int) (W : World) (h : Ints W v l) (hI : ∀ n ∈ l, I64 n) (hother : I64 other) :
    Calls Try.prog 5 #[v, .int .i64 other] W fun e w' => e = .returned (.bool true) ∧ Ext W w' := by
  have HST := Lib.hid (stocked_any v l W h hI)
  have HPK := Lib.hid fun wx => picked_any other 500 wx hother.1 hother.2 (by omega) (by omega)
  have hpk := pk_bd other 500 (by omega)
  obtain ⟨k, hk⟩ : ∃ k, pk other 500 = k := ⟨_, rfl⟩
  rw [hk] at HPK hpk
  clear hk hother
  obtain ⟨aA, cA, rfl, hrA⟩ := h
  have hlA : l.length ≤ 9223372036854775807 := by have h1 := hrA.le; have h2 := hrA.max; unfold maxLen at h2; omega
  clear hrA hI
  go_enter Try.func5, Try.ntmps5
  go_wp2_with fail
  refine HST.out.mono ?_
  rintro e w1 ⟨lv, rv, kv, s, ks, rfl, hS, hKI, hK, hKb, hK1, hK0, hE1⟩
  obtain ⟨al, cl, ar, cr, rfl, rfl⟩ := hS.val
  obtain ⟨ak, ck, rfl, hrk⟩ := id hKI
  have hkc := hrk.le
  have hkm := hrk.max
  unfold maxLen at hkm
  have hx := ext_al (Ext.refl w1) (Obj.cells #[.slice al s.loose.length cl, .slice ar s.runs.length cr] 25)
  have hb := blk_new w1 (Obj.cells #[.slice al s.loose.length cl, .slice ar s.runs.length cr] 25)
  have HS := Lib.hid (hS.ext hx)
  have HKI := Lib.hid (hKI.ext hx)
  have HB := Lib.hid hb
  have HX := Lib.hid (hE1.trans hx)
  have HK := Lib.hid hK
  have HKB := Lib.hid hKb
  have HK0 := Lib.hid hK0
  have d0 := blk_cell hb (i := 0) rfl
  have d1 := blk_cell hb (i := 1) rfl
  have hlen := hK.len
  have hskl := St.keys_len s
  have hfew := hK.ok.runs_few
  obtain ⟨D, hD⟩ : ∃ D, w1.heap.size = D := ⟨_, rfl⟩
  rw [hD] at HB d0 d1
  have HD := Lib.hid hD
  clear hS hKI hK hKb hK0 hE1 hx hb hrk HST
  go_wp2_with fail
  generalize w1.alloc (Obj.cells #[.slice al s.loose.length cl, .slice ar s.runs.length cr] 25) = W1 at *
  clear hD
  refine (HPK.out _).mono ?_
  rintro e w' ⟨rfl, rfl⟩
  go_wp2_with fail
  refine (has_st _ _ s k W1 HS.out HK.out.ok (by omega) (by omega)).mono ?_
  rintro e w2 ⟨rfl, hE2⟩
  have HE2 := Lib.hid hE2
  have d0 := cell_later hE2 d0
  have d1 := cell_later hE2 d1
  clear hE2
  have HMB := Lib.hid (show decide (k ∈ s.keys) = decide (k ∈ ks) by simp [HK.out.mem])
  rw [HMB.out]
  go_wp2_with fail
  refine (all_st _ _ s w2 (HS.out.ext HE2.out) HK.out.ok (by omega)).mono ?_
  rintro e w3 ⟨v3, rfl, hI3, hE3⟩
  rw [HK.out.sort] at hI3
  have HE3 := Lib.hid (HE2.out.trans hE3)
  obtain ⟨a3, c3, rfl, hr3⟩ := id hI3
  obtain ⟨b3, o3, q1, q2⟩ := ints_at' hr3
  have HQ1 := Lib.hid q1
  have HQ2 := Lib.hid q2
  have HI3 := Lib.hid hI3
  have hsl := sortL_len ks
  have HUP := Lib.hid HK.out.all_up
  have HME := Lib.hid fun (x : Int) => sortL_mem ks x
  have HHS := Lib.hid fun (x : Int) wx (hx : Ext W1 wx) => has_any _ ks x wx (HKI.out.ext hx)
  have HHY := Lib.hid fun (x : Int) wx (hx : Ext W1 wx) (hm : x ∈ ks) => (show Calls Try.prog 15 #[.slice ak ks.length ck, .int .i64 x] wx fun e w' => e = .returned (.bool true) ∧ wx = w' from by
    have h := HHS.out x wx hx
    rw [decide_eq_true hm] at h
    exact h)
  obtain ⟨bb, hbb⟩ : ∃ x, decide (k ∈ ks) = x := ⟨_, rfl⟩
  have HBB := Lib.hid (show Calls Try.prog 15 #[.slice ak ks.length ck, .int .i64 k] w3 fun e w' => e = .returned (.bool bb) ∧ w3 = w' from by
    rw [← hbb]
    exact HHS.out k w3 HE3.out)
  rw [hbb]
  have HSL := Lib.hid hsl
  rw [hsl]
  generalize sortL ks = L at *
  clear hI3 hE3 hr3 q1 q2 hbb HMB d0 d1 hsl
  have hbn : (bb != bb) = false := by cases bb <;> rfl
  cases bb
  all_goals
    go_wp2_with fail
    refine HBB.out.mono ?_
    rintro e w' ⟨rfl, rfl⟩
    go_wp2_with fail
    go_loopg [13] ks.length (fun g x wr => ∃ i : Nat, g + i = ks.length ∧ x = .int .i64 (i : Int) ∧ Ext W1 wr ∧ Ext w3 wr)
    case atStart => exact ⟨0, by omega, by go_num, HE3.out, Ext.refl _⟩
    case round =>
      obtain ⟨i, hki, rfl, hE, hE'⟩ := hrel
      have HKI2 := Lib.hid hki
      have HEE := Lib.hid hE
      by_cases hi : i < ks.length
      · obtain rfl := HQ1.out (by rw [HSL.out]; omega)
        have hiL : i < L.length := by rw [HSL.out]; exact hi
        have cx := cell_later hE' (HQ2.out i hiL)
        have HUJ := Lib.hid fun (j : Nat) (hj : j < i) => List.pairwise_iff_getElem.1 HUP.out j i (Nat.lt_trans hj hiL) hiL hj
        have hmx : L[i] ∈ ks := (HME.out _).1 (by simp)
        have HHX := Lib.hid fun (n : Nat) => (show Calls Try.prog 15 #[.slice ak ks.length ck, .int .i64 L[i]] (wr.drewN n) fun e w' => e = .returned (.bool true) ∧ ∃ m, w' = (wr.drewN n).drewN m from (HHY.out L[i] (wr.drewN n) (below_drewN hE n) hmx).mono fun e w' h => ⟨h.1, 0, h.2.symm⟩)
        have HCJ := Lib.hid fun (j : Nat) (hj : j < i) => cell_later hE' (HQ2.out j (Nat.lt_trans hj hiL))
        have hiI : (i : Int) < (ks.length : Int) := by omega
        have hi0 : (0 : Int) ≤ (i : Int) := by omega
        have HEX := Lib.hid hE'
        clear hki hE hE' hmx
        by_cases hz : i = 0
        · have q0 : ¬ 0 < i := by omega
          have q1 : decide ((0 : Int) < (i : Int)) = false := by rw [decide_eq_false_iff_not]; omega
          have q2 : decide (0 < i) = false := by rw [decide_eq_false_iff_not]; omega
          generalize L[i] = x at *
          clear hz HUJ HCJ
          go_upto_region 10 with fail
          go_quiet ((go_at_call 15; exact (HHX.out _).mono (fun _ _ hz => ⟨hz.1, drew_more hz.2⟩)))
          go_wp2_with fail
          go_roundg (gk - 1)
          case measure => have := HKI2.out; omega
          case rel => exact ⟨i + 1, by have := HKI2.out; omega, by go_num, below_drewN HEE.out _, below_drewN HEX.out _⟩
        · obtain ⟨j, hj⟩ : ∃ j, i = j + 1 := ⟨i - 1, by omega⟩
          have cy := HCJ.out j (by omega)
          have hd := HUJ.out j (by omega)
          have hjl : j < L.length := by omega
          have q0 : 0 < i := by omega
          have q1 : decide ((0 : Int) < (i : Int)) = true := by rw [decide_eq_true_eq]; omega
          have q2 : decide (0 < i) = true := by rw [decide_eq_true_eq]; omega
          have q3 : decide (L[i] ≤ L[j]) = false := by rw [decide_eq_false_iff_not]; omega
          have q5 : ¬ L[i] ≤ L[j] := by omega
          have t4 : IntKind.i64.wrap ((i : Int) - 1) = (j : Int) := (IntWalk.i64_in _ (by omega)).trans (by omega)
          have hjI : (j : Int) < (ks.length : Int) := by omega
          have hj0 : (0 : Int) ≤ (j : Int) := by omega
          generalize L[i] = x at *
          generalize L[j] = y at *
          clear hz hj hd HUJ HCJ
          go_upto_region 10 with fail
          go_quiet ((go_at_call 15; exact (HHX.out _).mono (fun _ _ hz => ⟨hz.1, drew_more hz.2⟩)))
          go_wp2_with fail
          go_roundg (gk - 1)
          case measure => have := HKI2.out; omega
          case rel => exact ⟨i + 1, by have := HKI2.out; omega, by go_num, below_drewN HEE.out _, below_drewN HEX.out _⟩
      · have hiI : ¬ (i : Int) < (ks.length : Int) := by omega
        clear hki hE hE'
        go_wp2
        go_ret
        exact ⟨rfl, HX.out.trans HEE.out⟩

theorem storeOnce_law (v0 : Value) (v1 : Value) (W : World) (h0 : Cells Try.prog W 22 [v0]) (h1 : Cells Try.prog W 3 [v1]) :
    Calls Try.prog 5 #[v0, v1] W fun e w' => e = .returned (.bool true) ∧ Ext W w' := by
  obtain ⟨v, l, e0, hl, hI⟩ := h0.ints Try.underlying22 Try.underlying3 (by kernel_rfl)
  cases e0
  obtain ⟨n1, e1, i1⟩ := h1.i64 Try.underlying3
  cases e1
  exact storeOnce_walk _ l n1 W hl hI i1

end Go.Proofs.Ytmacgcaehfjoiaa
