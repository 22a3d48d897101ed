/- Stores in memory; the contracts of store.keys, slices.ContainsFunc (with the closure of Check), store.Check. -/
import Derived.Test.YtmacgcaehfjoiaaStC
import Derived.Test.YtmacgcaehfjoiaaStQ
import Derived.Test.YtmacgcaehfjoiaaSrtI
namespace Go.Proofs.Ytmacgcaehfjoiaa
open Go.RowKit

/-- A value is a store. -/
structure IsSt (w : World) (lv rv : Value) (s : St) : Prop where
  lo : Ints w lv s.loose
  ru : Lists w rv s.runs
theorem IsSt.ext {w w' : World} {lv rv : Value} {s : St} (h : IsSt w lv rv s) (hE : Ext w w') : IsSt w' lv rv s := ⟨h.lo.ext hE, h.ru.ext hE⟩
theorem Lists.val {w : World} {v : Value} {ll : List (List Int)} (h : Lists w v ll) : ∃ a c, v = .slice a ll.length c := by
  obtain ⟨vs, he, a, c, rfl, _⟩ := h
  exact ⟨a, c, rfl⟩

/-- The keys of a store up to one of its runs. -/
def allL (s : St) (i : Nat) : List Int := s.loose ++ (s.runs.take i).flatten
theorem allL_succ {s : St} {i : Nat} (hi : i < s.runs.length) : allL s (i + 1) = allL s i ++ s.runs[i] := by
  unfold allL
  rw [List.take_succ_eq_append_getElem hi, List.flatten_append, ← List.append_assoc]
  simp
theorem allL_all (s : St) : allL s s.runs.length = s.keys := by unfold allL St.keys; rw [List.take_length]
theorem allL_len (s : St) (i : Nat) : (allL s i).length ≤ s.keys.length := by
  unfold allL St.keys
  rw [List.length_append, List.length_append, List.length_flatten, List.length_flatten]
  have := manyL_le s.runs i
  unfold manyL at this
  omega

set_option maxRecDepth 100000 in
set_option maxHeartbeats 4000000 in
theorem nokey_ix (v : Value) (l : List Int) (w : World) (h : Ints w v l) (hk : ∀ x ∈ l, 0 ≤ x ∧ x ≤ 2147483647) :
    Calls Try.prog 32 #[v, .func (.func 26) #[] #[]] w fun e w' => e = .returned (.int .i64 (-1)) ∧ w = w' := by
  obtain ⟨a, c, rfl, hr⟩ := h
  obtain ⟨b, off, h1, h2⟩ := ints_at' hr
  have hl : l.length ≤ maxLen := Nat.le_trans hr.le hr.max
  unfold maxLen at hl
  have H1 := Lib.hid h1
  have H2 := Lib.hid h2
  have HK := Lib.hid hk
  clear h1 h2 hr hk
  go_enter Try.func32, Try.ntmps32
  go_wp2_with fail
  go_loopg [8] l.length (fun k x wr => ∃ i : Nat, k + i = l.length ∧ x = .int .i64 (i : Int) ∧ w = wr)
  case atStart => exact ⟨0, by omega, by go_num, rfl⟩
  case round =>
    obtain ⟨i, hki, rfl, rfl⟩ := hrel
    have HKI := Lib.hid hki
    clear hki
    by_cases hi : i < l.length
    · obtain rfl := H1.out (by omega)
      have cx := H2.out i hi
      have HN := Lib.hid (nokey_any l[i] w (HK.out l[i] (by simp)))
      have hiI : (i : Int) < (l.length : Int) := by omega
      have hi0 : (0 : Int) ≤ (i : Int) := by omega
      generalize l[i] = x at *
      go_wp2_with fail
      refine HN.out.mono ?_
      rintro e w1 ⟨rfl, rfl⟩
      go_wp2_with fail
      go_roundg (gk - 1)
      case measure => have := HKI.out; omega
      case rel => exact ⟨i + 1, by have := HKI.out; omega, by go_num, rfl⟩
    · have hiI : ¬ (i : Int) < (l.length : Int) := by omega
      go_wp2
      go_ret
      exact ⟨rfl, rfl⟩

theorem nokeys_any (v : Value) (l : List Int) (w : World) (h : Ints w v l) (hk : ∀ x ∈ l, 0 ≤ x ∧ x ≤ 2147483647) :
    Calls Try.prog 25 #[v, .func (.func 26) #[] #[]] w fun e w' => e = .returned (.bool false) ∧ w = w' := by
  have HI := Lib.hid (nokey_ix v l w h hk)
  obtain ⟨a, c, rfl, hr⟩ := h
  clear hr hk
  generalize l.length = nl at *
  go_enter Try.func25, Try.ntmps25
  go_wp2_with fail
  refine HI.out.mono ?_
  rintro e w1 ⟨rfl, rfl⟩
  go_wp2
  go_ret
  exact ⟨rfl, rfl⟩

set_option maxRecDepth 100000 in
set_option maxHeartbeats 8000000 in
theorem check_st (lv rv : Value) (s : St) (w : World) (h : IsSt w lv rv s) (hp : s.Ok) (hl : s.keys.length ≤ 1000) :
    Calls Try.prog 16 #[.agg #[lv, rv]] w fun e w' => e = .returned (.int .i64 0) ∧ Ext w w' := by
  have HCL := Lib.hid fun wx (hx : Ext w wx) => cloneI_any lv s.loose wx (h.lo.ext hx) (by have := St.keys_len s; omega)
  obtain ⟨al, cl, rfl, _⟩ := id h.lo
  obtain ⟨ar, cr, rfl⟩ := h.ru.val
  obtain ⟨_, hrl, hrm, br, orr, har, hcr⟩ := h.ru.cells
  unfold maxLen at hrm
  have hbk := blk_new w (Obj.cells #[.slice al s.loose.length cl, .slice ar s.runs.length cr] 25)
  have HE := Lib.hid (ext_al (Ext.refl w) (Obj.cells #[.slice al s.loose.length cl, .slice ar s.runs.length cr] 25))
  have HB := Lib.hid hbk
  have HAR := Lib.hid har
  have HCR := Lib.hid hcr
  have HP := Lib.hid hp
  have h8 : s.loose.length < 8 := by have := hp.lo; omega
  clear h har hcr hp hbk
  go_enter Try.func16, Try.ntmps16
  have d0 := blk_cell HB.out (i := 0) (v := .slice al s.loose.length cl) rfl
  have h8I : ¬ (8 : Int) ≤ (s.loose.length : Int) := by omega
  go_wp2_with fail
  generalize w.alloc (Obj.cells #[.slice al s.loose.length cl, .slice ar s.runs.length cr] 25) = W1 at *
  refine (HCL.out _ HE.out).mono ?_
  rintro e w2 ⟨v2, rfl, ho2, hE2⟩
  obtain ⟨a2, c2, rfl, _⟩ := id ho2.row
  have d1 := blk_cell (blk_ext HB.out hE2) (i := 1) (v := .slice ar s.runs.length cr) rfl
  have HO2 := Lib.hid (show w2.ownsRow W1.heap.size 3 1 (.slice a2 (allL s 0).length c2) (allL s 0).length ((allL s 0).map (.int .i64)) by simpa [allL] using ho2)
  have HE2 := Lib.hid hE2
  have hl0 : s.loose.length = (allL s 0).length := by simp [allL]
  clear HCL d0 ho2 hE2
  rw [hl0]
  go_wp2_with fail
  have HAL := Lib.hid fun i => allL_len s i
  go_loopg [20, 3] s.runs.length (fun k x y wr => ∃ (i : Nat) (ao : Option Addr) (co : Nat), k + i = s.runs.length ∧ x = .int .i64 (i : Int) ∧ y = .slice ao (allL s i).length co ∧ Ext W1 wr ∧ wr.ownsRow W1.heap.size 3 1 (.slice ao (allL s i).length co) (allL s i).length ((allL s i).map (.int .i64)))
  case atStart => exact ⟨0, a2, c2, by omega, by go_num, rfl, HE2.out, HO2.out⟩
  case round =>
    obtain ⟨i, ao, co, hki, rfl, rfl, hE, hO⟩ := hrel
    have HKI := Lib.hid hki
    have HEE := Lib.hid hE
    have HOO := Lib.hid hO
    by_cases hi : i < s.runs.length
    · obtain rfl := HAR.out (by omega)
      obtain ⟨ai, ci, cr1, hir⟩ := HCR.out i hi
      have hup := HP.out.run_up (List.getElem_mem hi)
      have hpos := (HP.out.run_pos (List.getElem_mem hi)).1
      have has := allL_succ hi
      have hal := HAL.out (i + 1)
      rw [has, List.length_append] at hal
      have cx := cell_later (HE.out.trans hE) cr1
      have HIR := Lib.hid (hir.ext (HE.out.trans hE))
      have HUP := Lib.hid hup
      have HAS := Lib.hid has
      have hiI : (i : Int) < (s.runs.length : Int) := by omega
      have hi0 : (0 : Int) ≤ (i : Int) := by omega
      obtain ⟨r, hr⟩ : ∃ r, s.runs[i] = r := ⟨_, rfl⟩
      rw [hr] at cx HIR HUP HAS hpos hal
      obtain ⟨N, hN⟩ : ∃ N, (allL s i).length = N := ⟨_, rfl⟩
      rw [hN] at HOO hal ⊢
      have HN := Lib.hid hN
      have q1 : ((r.length : Int) == 0) = false := by rw [beq_eq_false_iff_ne]; omega
      have q3 : ¬ r = [] := by intro e; rw [e] at hpos; simp at hpos
      have q2 : ¬ (20000 : Int) < (N : Int) + (r.length : Int) := by omega
      clear hir cr1 hup has hki hE hO hr hN
      have HRL := Lib.hid (show r.length ≤ 1000 by omega)
      obtain ⟨_, _, e1, hrw⟩ := id HIR.out
      simp only [Value.slice.injEq] at e1
      obtain ⟨rfl, -, rfl⟩ := e1
      have HRW := Lib.hid hrw
      obtain ⟨b1, o1, r1, r2⟩ := ints_at' hrw
      obtain rfl := r1 (by omega)
      have HR2 := Lib.hid r2
      clear hrw r1 r2
      have hrl : r.length ≤ 1000 := HRL.out
      go_wp2_with fail
      clear cx
      obtain ⟨wo, rfl⟩ : ∃ wo : World, wo = wr := ⟨_, rfl⟩
      obtain ⟨go, rfl⟩ : ∃ g : Nat, g = gk := ⟨_, rfl⟩
      go_loopg [37] r.length (fun k x wq => ∃ j : Nat, k + j = r.length ∧ x = .int .i64 (j : Int) ∧ wo = wq)
      case atStart => exact ⟨0, by omega, by go_num, rfl⟩
      case round =>
        obtain ⟨j, hkj, rfl, rfl⟩ := hrel
        have HKJ := Lib.hid hkj
        clear hkj
        by_cases hj : j < r.length
        · have cj := HR2.out j hj
          have hjI : (j : Int) < (r.length : Int) := by omega
          have hj0 : (0 : Int) ≤ (j : Int) := by omega
          by_cases hj00 : j = 0
          · have r3 : ¬ (0 : Int) < (j : Int) := by omega
            have r4 : ¬ 0 < j := by omega
            generalize r[j] = x at *
            clear hj00
            go_wp2_with fail
            go_roundg (gk - 1)
            case measure => have := HKJ.out; omega
            case rel => exact ⟨j + 1, by have := HKJ.out; omega, by go_num, rfl⟩
          · obtain ⟨j', rfl⟩ : ∃ j', j = j' + 1 := ⟨j - 1, by omega⟩
            generalize j' = j at *
            clear hj00
            have hlt : r[j] < r[j + 1] := List.pairwise_iff_getElem.1 HUP.out j (j + 1) (by omega) hj (by omega)
            have cp := HR2.out j (by omega)
            have t1 : IntKind.i64.wrap (((j + 1 : Nat) : Int) - 1) = (j : Int) := (IntWalk.i64_in _ (by omega)).trans (by omega)
            have t2 : (0 : Int) < ((j + 1 : Nat) : Int) := by omega
            have t3 : ¬ r[j + 1] ≤ r[j] := by omega
            have hj2 : (j : Int) < (r.length : Int) := by omega
            have hj3 : (0 : Int) ≤ (j : Int) := by omega
            generalize r[j + 1] = x at *
            generalize r[j] = y at *
            generalize hjj : j + 1 = j1 at *
            have HJJ := Lib.hid hjj
            clear hjj hlt
            go_wp2_with fail
            go_roundg (gk - 1)
            case measure => have := HKJ.out; omega
            case rel => exact ⟨j1 + 1, by have := HKJ.out; omega, by go_num, rfl⟩
        · have hjI : ¬ (j : Int) < (r.length : Int) := by omega
          go_wp2_with (at_builtin; go_must (refine wpl_append rfl rfl Try.slInts W1.heap.size rfl HOO.out rfl HRW.out (by intro u hu; obtain ⟨x, _, rfl⟩ := List.mem_map.1 hu; rfl) (by unfold maxLen; omega) (by omega) HEE.out.size ?_))
          intro v4 w4 hown4 hg4 hb4 _
          have HE4 := Lib.hid (show Ext W1 w4 from Below.grown HEE.out hg4 HEE.out.size (fun b hb => (HOO.out.lt b hb).1))
          have HO4 := Lib.hid (show w4.ownsRow W1.heap.size 3 1 v4 (allL s (i + 1)).length ((allL s (i + 1)).map (.int .i64)) from own_cast hown4 (by rw [HAS.out, List.length_append, HN.out]) (by rw [HAS.out, List.map_append]))
          clear hown4 hg4 hb4
          obtain ⟨a4, c4, rfl, _⟩ := id HO4.out.row
          go_wp2_with fail
          go_roundg (go - 1)
          case measure => have := HKI.out; omega
          case rel => exact ⟨i + 1, a4, c4, by have := HKI.out; omega, by go_num, rfl, HE4.out, HO4.out⟩
    · obtain rfl : i = s.runs.length := by have := HKI.out; omega
      have hii : Ints wr (.slice ao (allL s s.runs.length).length co) (allL s s.runs.length) := hO.reads
      have HNK := Lib.hid (nokeys_any _ _ wr hii (by rw [allL_all]; exact HP.out.bd))
      have hsn : (allL s s.runs.length).length ≤ 1000 := Nat.le_trans (HAL.out _) hl
      have HSO := Lib.hid (sortI_any _ _ _ wr hO (by omega))
      have hiI : ¬ (s.runs.length : Int) < (s.runs.length : Int) := by omega
      have HUS := Lib.hid (show (sortL (allL s s.runs.length)).Pairwise (· < ·) by rw [allL_all]; exact HP.out.all_up)
      clear hki hE hO hii
      go_wp2_with fail
      refine HNK.out.mono ?_
      rintro e w5 ⟨rfl, rfl⟩
      go_wp2_with fail
      refine HSO.out.mono ?_
      rintro e w6 ⟨rfl, ho6, hg6⟩
      have HE6 := Lib.hid (show Ext W1 w6 from Below.grown HEE.out hg6 HEE.out.size (fun b hb => (HOO.out.lt b hb).1))
      obtain ⟨a6, c6, e6, hr6⟩ := ho6.row
      simp only [Value.slice.injEq] at e6
      obtain ⟨rfl, -, rfl⟩ := e6
      have hsl := sortL_len (allL s s.runs.length)
      rw [← hsl] at hr6 hsn
      obtain ⟨b6, o6, r1, r2⟩ := ints_at' hr6
      have HR1 := Lib.hid r1
      have HR2 := Lib.hid r2
      have HSL := Lib.hid hsl
      clear ho6 hg6 hr6 r1 r2 HSO HNK
      go_wp2_with fail
      rw [← HSL.out]
      clear hsl
      generalize sortL (allL s s.runs.length) = r at *
      go_loopg [64] r.length (fun k x wq => ∃ j : Nat, k + j = r.length ∧ x = .int .i64 (j : Int) ∧ w6 = wq)
      case atStart => exact ⟨0, by omega, by go_num, rfl⟩
      case round =>
        obtain ⟨j, hkj, rfl, rfl⟩ := hrel
        have HKJ := Lib.hid hkj
        clear hkj
        by_cases hj : j < r.length
        · have cj := HR2.out j hj
          obtain rfl := HR1.out (by omega)
          have hjI : (j : Int) < (r.length : Int) := by omega
          have hj0 : (0 : Int) ≤ (j : Int) := by omega
          by_cases hj00 : j = 0
          · have r3 : ¬ (0 : Int) < (j : Int) := by omega
            have r4 : ¬ 0 < j := by omega
            generalize r[j] = x at *
            clear hj00
            go_wp2_with fail
            go_roundg (gk - 1)
            case measure => have := HKJ.out; omega
            case rel => exact ⟨j + 1, by have := HKJ.out; omega, by go_num, rfl⟩
          · obtain ⟨j', rfl⟩ : ∃ j', j = j' + 1 := ⟨j - 1, by omega⟩
            generalize j' = j at *
            clear hj00
            have hlt : r[j] < r[j + 1] := List.pairwise_iff_getElem.1 HUS.out j (j + 1) (by omega) hj (by omega)
            have cp := HR2.out j (by omega)
            have t1 : IntKind.i64.wrap (((j + 1 : Nat) : Int) - 1) = (j : Int) := (IntWalk.i64_in _ (by omega)).trans (by omega)
            have t2 : (0 : Int) < ((j + 1 : Nat) : Int) := by omega
            have t3 : (r[j] == r[j + 1]) = false := by rw [beq_eq_false_iff_ne]; omega
            have hj2 : (j : Int) < (r.length : Int) := by omega
            have hj3 : (0 : Int) ≤ (j : Int) := by omega
            generalize r[j + 1] = x at *
            generalize r[j] = y at *
            generalize hjj : j + 1 = j1 at *
            have HJJ := Lib.hid hjj
            clear hjj hlt
            go_wp2_with fail
            go_roundg (gk - 1)
            case measure => have := HKJ.out; omega
            case rel => exact ⟨j1 + 1, by have := HKJ.out; omega, by go_num, rfl⟩
        · have hjI : ¬ (j : Int) < (r.length : Int) := by omega
          go_wp2
          go_ret
          exact ⟨rfl, HE.out.trans HE6.out⟩

end Go.Proofs.Ytmacgcaehfjoiaa
