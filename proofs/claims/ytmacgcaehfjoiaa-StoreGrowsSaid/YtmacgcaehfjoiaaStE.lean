/- The contracts of store.keys, store.own, store.All, store.Has. -/
import Derived.Test.YtmacgcaehfjoiaaStD
namespace Go.Proofs.Ytmacgcaehfjoiaa
open Go.RowKit

set_option maxRecDepth 100000 in
set_option maxHeartbeats 4000000 in
theorem keys_st (lv rv : Value) (s : St) (w : World) (h : IsSt w lv rv s) (hl : s.keys.length ≤ 1000) :
    Calls Try.prog 21 #[.agg #[lv, rv]] w fun e w' => e = .returned (.int .i64 (s.keys.length : Int)) ∧ Ext w w' := by
  obtain ⟨al, cl, rfl, _⟩ := id h.lo
  obtain ⟨ar, cr, rfl⟩ := h.ru.val
  obtain ⟨_, hrl, hrm, br, orr, har, hcr⟩ := h.ru.cells
  unfold maxLen at hrm
  have hbk := blk_new w (Obj.cells #[.slice al s.loose.length cl, .slice ar s.runs.length cr] 25)
  have HE := Lib.hid (ext_al (Ext.refl w) (Obj.cells #[.slice al s.loose.length cl, .slice ar s.runs.length cr] 25))
  have HAR := Lib.hid har
  have HCR := Lib.hid hcr
  have HAL := Lib.hid fun i => allL_len s i
  have HKL := Lib.hid (show (allL s s.runs.length).length = s.keys.length by rw [allL_all])
  have HL0 := Lib.hid (show s.loose.length = (allL s 0).length by simp [allL])
  have d0 := blk_cell hbk (i := 0) (v := .slice al s.loose.length cl) rfl
  have d1 := blk_cell hbk (i := 1) (v := .slice ar s.runs.length cr) rfl
  clear h har hcr hbk
  go_enter Try.func21, Try.ntmps21
  go_wp2_with fail
  generalize w.alloc (Obj.cells #[.slice al s.loose.length cl, .slice ar s.runs.length cr] 25) = W1 at *
  go_loopg [12, 3] s.runs.length (fun k x y wr => ∃ i : Nat, k + i = s.runs.length ∧ x = .int .i64 (i : Int) ∧ y = .int .i64 ((allL s i).length : Int) ∧ W1 = wr)
  case atStart => exact ⟨0, by omega, by go_num, by rw [HL0.out], rfl⟩
  case round =>
    obtain ⟨i, hki, rfl, rfl, rfl⟩ := hrel
    have HKI := Lib.hid hki
    by_cases hi : i < s.runs.length
    · obtain rfl := HAR.out (by omega)
      obtain ⟨ai, ci, cr1, _⟩ := HCR.out i hi
      have has := allL_succ hi
      have hal := HAL.out (i + 1)
      rw [has, List.length_append] at hal
      have cx := cell_later HE.out cr1
      have HAS := Lib.hid has
      have hiI : (i : Int) < (s.runs.length : Int) := by omega
      have hi0 : (0 : Int) ≤ (i : Int) := by omega
      obtain ⟨r, hr⟩ : ∃ r, s.runs[i] = r := ⟨_, rfl⟩
      rw [hr] at cx HAS hal
      obtain ⟨N, hN⟩ : ∃ N, (allL s i).length = N := ⟨_, rfl⟩
      rw [hN] at hal ⊢
      have HN := Lib.hid hN
      have t1 : IntKind.i64.wrap ((N : Int) + (r.length : Int)) = ((N + r.length : Nat) : Int) := (IntWalk.i64_in _ (by omega)).trans (by omega)
      clear cr1 has hki hr hN
      go_wp2_with fail
      go_roundg (gk - 1)
      case measure => have := HKI.out; omega
      case rel => exact ⟨i + 1, by have := HKI.out; omega, by go_num, by rw [HAS.out, List.length_append, HN.out]; simp, rfl⟩
    · obtain rfl : i = s.runs.length := by have := HKI.out; omega
      have hiI : ¬ (s.runs.length : Int) < (s.runs.length : Int) := by omega
      clear hki
      go_wp2
      go_ret
      exact ⟨by rw [HKL.out]; rfl, HE.out⟩

set_option maxRecDepth 100000 in
set_option maxHeartbeats 8000000 in
theorem all_st (lv rv : Value) (s : St) (w : World) (h : IsSt w lv rv s) (hp : s.Ok) (hl : s.keys.length ≤ 1000) :
    Calls Try.prog 14 #[.agg #[lv, rv]] w fun e w' => ∃ v, e = .returned (.tuple #[v, .int .i64 0]) ∧ Ints w' v (sortL s.keys) ∧ Ext w w' := by
  have HCK := Lib.hid fun wx (hx : Ext w wx) => check_st lv rv s wx (h.ext hx) hp hl
  have HCL := Lib.hid fun wx (hx : Ext w wx) => cloneI_any lv s.loose wx (h.lo.ext hx) (by have := St.keys_len s; omega)
  obtain ⟨al, cl, rfl, _⟩ := id h.lo
  obtain ⟨ar, cr, rfl⟩ := h.ru.val
  obtain ⟨_, hrl, hrm, br, orr, har, hcr⟩ := h.ru.cells
  unfold maxLen at hrm
  have hbk := blk_new w (Obj.cells #[.slice al s.loose.length cl, .slice ar s.runs.length cr] 25)
  have HE := Lib.hid (ext_al (Ext.refl w) (Obj.cells #[.slice al s.loose.length cl, .slice ar s.runs.length cr] 25))
  have HB := Lib.hid hbk
  have HAR := Lib.hid har
  have HCR := Lib.hid hcr
  have HP := Lib.hid hp
  have h8 : s.loose.length < 8 := by have := hp.lo; omega
  have HAL := Lib.hid fun i => allL_len s i
  have HL0 := Lib.hid (show s.loose = allL s 0 by simp [allL])
  have HKL := Lib.hid (show allL s s.runs.length = s.keys by rw [allL_all])
  have d0 := blk_cell hbk (i := 0) (v := .slice al s.loose.length cl) rfl
  have d1 := blk_cell hbk (i := 1) (v := .slice ar s.runs.length cr) rfl
  clear h har hcr hp hbk
  go_enter Try.func14, Try.ntmps14
  go_wp2_with fail
  generalize w.alloc (Obj.cells #[.slice al s.loose.length cl, .slice ar s.runs.length cr] 25) = W1 at *
  refine (HCK.out _ HE.out).mono ?_
  rintro e w2 ⟨rfl, hE2⟩
  have d0 := blk_cell (blk_ext HB.out hE2) (i := 0) (v := .slice al s.loose.length cl) rfl
  have HX2 := Lib.hid (HE.out.trans hE2)
  have HB2 := Lib.hid (blk_ext HB.out hE2)
  clear hE2 d1 HB HCK
  go_wp2_with fail
  refine (HCL.out _ HX2.out).mono ?_
  rintro e w3 ⟨v3, rfl, ho3, hE3⟩
  obtain ⟨a3, c3, rfl, _⟩ := id ho3.row
  have HB3 := Lib.hid (blk_ext HB2.out hE3)
  have HX3 := Lib.hid (HX2.out.trans hE3)
  have HSO := Lib.hid (sortI_any _ s.loose _ w3 ho3 (by omega))
  have HO3 := Lib.hid ho3
  have hs2 := HX2.out.size
  have hs3 := blk_lt HB2.out
  clear d0 HB2 HCL ho3 hE3
  go_wp2_with fail
  refine HSO.out.mono ?_
  rintro e w4 ⟨rfl, ho4, hg4⟩
  have HE4 := Lib.hid (show Ext w w4 from Below.grown HX3.out hg4 HX3.out.size (fun b hb => by have := (HO3.out.lt b hb).1; omega))
  have HB4 := Lib.hid (blk_grown HB3.out hg4 (fun e => by have := HO3.out.lt w.heap.size e.symm; omega))
  have d1 := blk_cell HB4.out (i := 1) (v := .slice ar s.runs.length cr) rfl
  rw [HL0.out] at ho4
  have HI4 := Lib.hid (show Ints w4 (.slice a3 (allL s 0).length c3) (sortL (allL s 0)) from by
    have := ho4.reads
    unfold Ints
    rw [sortL_len]
    exact this)
  clear ho4 hg4 HSO HO3
  go_wp2_with fail
  rw [HL0.out]
  go_loopg [21, 5] s.runs.length (fun k x y wr => ∃ (i : Nat) (ao : Option Addr) (co : Nat), k + i = s.runs.length ∧ x = .int .i64 (i : Int) ∧ y = .slice ao (allL s i).length co ∧ Ext w wr ∧ Ints wr (.slice ao (allL s i).length co) (sortL (allL s i)))
  case atStart => exact ⟨0, a3, c3, by omega, by go_num, rfl, HE4.out, HI4.out⟩
  case round =>
    obtain ⟨i, ao, co, hki, rfl, rfl, hE, hI⟩ := hrel
    have HKI := Lib.hid hki
    have HEE := Lib.hid hE
    have HII := Lib.hid hI
    by_cases hi : i < s.runs.length
    · obtain rfl := HAR.out (by omega)
      obtain ⟨ai, ci, cr1, hir⟩ := HCR.out i hi
      have hup := HP.out.up _ (List.getElem_mem hi)
      have has := allL_succ hi
      have hal := HAL.out (i + 1)
      rw [has, List.length_append] at hal
      have cx := cell_later hE cr1
      have HM := Lib.hid (merge_any _ _ _ _ wr hI (hir.ext hE) (by rw [sortL_len]; omega) (sortL_up _) hup)
      have HAS := Lib.hid (show sortL (sortL (allL s i) ++ s.runs[i]) = sortL (allL s (i + 1)) by rw [sortL_app, has])
      have HASL := Lib.hid (show (sortL (allL s i) ++ s.runs[i]).length = (allL s (i + 1)).length by rw [has]; simp [sortL_len])
      have hiI : (i : Int) < (s.runs.length : Int) := by omega
      have hi0 : (0 : Int) ≤ (i : Int) := by omega
      clear hir cr1 hup has hki hE hI hal
      go_wp2_with fail
      refine HM.out.mono ?_
      rintro e w5 ⟨v5, rfl, ho5, hE5⟩
      rw [HAS.out, HASL.out] at ho5
      obtain ⟨a5, c5, rfl, _⟩ := id ho5.row
      have HI5 := Lib.hid (show Ints w5 (.slice a5 (allL s (i + 1)).length c5) (sortL (allL s (i + 1))) from by
        have := ho5.reads
        unfold Ints
        rw [sortL_len]
        exact this)
      have HE5 := Lib.hid (HEE.out.trans hE5)
      clear ho5 hE5
      go_wp2_with fail
      go_roundg (gk - 1)
      case measure => have := HKI.out; omega
      case rel => exact ⟨i + 1, a5, c5, by have := HKI.out; omega, by go_num, rfl, HE5.out, HI5.out⟩
    · obtain rfl : i = s.runs.length := by have := HKI.out; omega
      have hiI : ¬ (s.runs.length : Int) < (s.runs.length : Int) := by omega
      rw [HKL.out] at hI
      have HI6 := Lib.hid hI
      clear hki hE hI HII
      rw [HKL.out]
      go_wp2
      go_ret2
      exact ⟨_, rfl, HI6.out, HEE.out⟩

set_option maxRecDepth 100000 in
set_option maxHeartbeats 4000000 in
theorem search_any (v : Value) (l : List Int) (n : Int) (w : World) (h : Ints w v l) (hl : 0 < l.length) (hl2 : l.length ≤ 1000) (hu : l.Pairwise (· ≤ ·)) :
    Calls Try.prog 19 #[v, .int .i64 n] w fun e w' => (∃ k : Int, e = .returned (.tuple #[.int .i64 k, .bool (decide (n ∈ l))])) ∧ Ext w w' := by
  obtain ⟨a, c, rfl, hr⟩ := h
  obtain ⟨b, off, h1, h2⟩ := ints_at' hr
  obtain rfl := h1 hl
  have e : l.take l.length = l := List.take_length
  refine (Try.slices_BinarySearch_int b off l.length c l n w (Nat.le_refl _) (by omega) (fun j hj => by rw [h2 j hj]; simp [List.getD, List.getElem?_eq_getElem hj]) (by rw [e]; exact hu)).mono ?_
  rintro e w' ⟨rfl, q, rfl⟩
  rw [e]
  exact ⟨⟨_, by rw [List.contains_eq_mem]⟩, below_drewN (Ext.refl _) _⟩

theorem mem_runs {s : St} {n : Int} (i : Nat) : n ∈ allL s i ↔ n ∈ s.loose ∨ n ∈ (s.runs.take i).flatten := List.mem_append

set_option maxRecDepth 100000 in
set_option maxHeartbeats 8000000 in
theorem has_st (lv rv : Value) (s : St) (n : Int) (w : World) (h : IsSt w lv rv s) (hp : s.Ok) (hl : s.keys.length ≤ 1000) (hn : 0 ≤ n ∧ n ≤ 2147483647) :
    Calls Try.prog 9 #[.agg #[lv, rv], .int .i64 n] w fun e w' => e = .returned (.tuple #[.bool (decide (n ∈ s.keys)), .int .i64 0]) ∧ Ext w w' := by
  have HCK := Lib.hid fun wx (hx : Ext w wx) => check_st lv rv s wx (h.ext hx) hp hl
  have HCO := Lib.hid fun wx (hx : Ext w wx) => contains_any lv s.loose n wx (h.lo.ext hx)
  have HKY := Lib.hid fun wx => key_any n wx
  rw [decide_eq_true hn] at HKY
  obtain ⟨res, hres⟩ : ∃ r, decide (n ∈ s.keys) = r := ⟨_, rfl⟩
  rw [hres]
  have HRS := Lib.hid hres
  clear hres
  obtain ⟨al, cl, rfl, _⟩ := id h.lo
  obtain ⟨ar, cr, rfl⟩ := h.ru.val
  obtain ⟨_, hrl, hrm, br, orr, har, hcr⟩ := h.ru.cells
  unfold maxLen at hrm
  have hbk := blk_new w (Obj.cells #[.slice al s.loose.length cl, .slice ar s.runs.length cr] 25)
  have HE := Lib.hid (ext_al (Ext.refl w) (Obj.cells #[.slice al s.loose.length cl, .slice ar s.runs.length cr] 25))
  have HB := Lib.hid hbk
  have HAR := Lib.hid har
  have HCR := Lib.hid hcr
  have HP := Lib.hid hp
  have HAL := Lib.hid fun i => allL_len s i
  have HL0 := Lib.hid (show decide (n ∈ s.loose) = decide (n ∈ allL s 0) by simp [allL])
  have HKL := Lib.hid (show allL s s.runs.length = s.keys by rw [allL_all])
  have d0 := blk_cell hbk (i := 0) (v := .slice al s.loose.length cl) rfl
  have d1 := blk_cell hbk (i := 1) (v := .slice ar s.runs.length cr) rfl
  clear h har hcr hp hbk hn
  go_enter Try.func9, Try.ntmps9
  go_wp2_with fail
  generalize w.alloc (Obj.cells #[.slice al s.loose.length cl, .slice ar s.runs.length cr] 25) = W1 at *
  refine (HCK.out _ HE.out).mono ?_
  rintro e w2 ⟨rfl, hE2⟩
  have d0 := blk_cell (blk_ext HB.out hE2) (i := 0) (v := .slice al s.loose.length cl) rfl
  have d1 := blk_cell (blk_ext HB.out hE2) (i := 1) (v := .slice ar s.runs.length cr) rfl
  have HX2 := Lib.hid (HE.out.trans hE2)
  clear hE2 HB HCK
  go_wp2_with fail
  refine (HKY.out _).mono ?_
  rintro e w' ⟨rfl, rfl⟩
  go_wp2_with fail
  refine (HCO.out _ HX2.out).mono ?_
  rintro e w' ⟨rfl, rfl⟩
  rw [HL0.out]
  go_wp2_with fail
  go_loopg [27, 7] s.runs.length (fun k x y wr => ∃ i : Nat, k + i = s.runs.length ∧ x = .int .i64 (i : Int) ∧ y = .bool (decide (n ∈ allL s i)) ∧ Ext w wr)
  case atStart => exact ⟨0, by omega, by go_num, rfl, HX2.out⟩
  case round =>
    obtain ⟨i, hki, rfl, rfl, hE⟩ := hrel
    have HKI := Lib.hid hki
    have HEE := Lib.hid hE
    by_cases hi : i < s.runs.length
    · obtain rfl := HAR.out (by omega)
      obtain ⟨ai, ci, cr1, hir⟩ := HCR.out i hi
      have hup := HP.out.up _ (List.getElem_mem hi)
      have hpos := (HP.out.run_pos (List.getElem_mem hi)).1
      have has := allL_succ hi
      have hal := HAL.out (i + 1)
      rw [has, List.length_append] at hal
      have cx := cell_later hE cr1
      have HSE := Lib.hid (search_any _ _ n wr (hir.ext hE) (by omega) (by omega) hup)
      have HAS := Lib.hid (show decide (n ∈ allL s (i + 1)) = (decide (n ∈ allL s i) || decide (n ∈ s.runs[i])) by rw [has]; simp [List.mem_append])
      have hiI : (i : Int) < (s.runs.length : Int) := by omega
      have hi0 : (0 : Int) ≤ (i : Int) := by omega
      obtain ⟨r, hr⟩ : ∃ r, s.runs[i] = r := ⟨_, rfl⟩
      rw [hr] at cx HSE HAS
      generalize decide (n ∈ allL s i) = p at *
      generalize decide (n ∈ r) = q at *
      clear hir cr1 hup has hki hE hal hr hpos
      go_wp2_with fail
      refine HSE.out.mono ?_
      rintro e w5 ⟨⟨k5, rfl⟩, hE5⟩
      have HE5 := Lib.hid (HEE.out.trans hE5)
      clear hE5
      cases p
      · go_wp2_with fail
        go_roundg (gk - 1)
        case measure => have := HKI.out; omega
        case rel => exact ⟨i + 1, by have := HKI.out; omega, by go_num, by rw [HAS.out]; simp, HE5.out⟩
      · go_wp2_with fail
        go_roundg (gk - 1)
        case measure => have := HKI.out; omega
        case rel => exact ⟨i + 1, by have := HKI.out; omega, by go_num, by rw [HAS.out]; simp, HE5.out⟩
    · obtain rfl : i = s.runs.length := by have := HKI.out; omega
      have hiI : ¬ (s.runs.length : Int) < (s.runs.length : Int) := by omega
      clear hki hE
      rw [HKL.out, HRS.out]
      go_wp2
      go_ret2
      exact ⟨rfl, HEE.out⟩

end Go.Proofs.Ytmacgcaehfjoiaa
