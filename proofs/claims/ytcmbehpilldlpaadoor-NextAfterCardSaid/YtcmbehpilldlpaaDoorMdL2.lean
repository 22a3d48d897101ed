/- The laws NextAfter, StepStay. -/
import Derived.Test.YtcmbehpilldlpaaDoorMdQ
import Derived.Deep.DeepCutAuto
import Derived.Deep.RegionLaw
namespace Go.Proofs.YtcmbehpilldlpaaDoor
open Go.RowKit

set_option maxHeartbeats 4000000 in
theorem has_any (v : Value) (l : List Int) (n : Int) (w : World) (h : Ints w v l) :
    Calls Tryd.prog 26 #[v, .int .i64 n] w fun e w' => e = .returned (.bool (decide (n ∈ l))) ∧ w = w' := by
  obtain ⟨a, c, rfl, hr⟩ := h
  obtain ⟨b, off, h1, h2⟩ := ints_at' hr
  have hl : l.length ≤ maxLen := Nat.le_trans hr.le hr.max
  unfold maxLen at hl
  have H1 := Lib.hid h1
  have H2 := Lib.hid h2
  obtain ⟨res, hres⟩ : ∃ r, decide (n ∈ l) = r := ⟨_, rfl⟩
  rw [hres]
  have HR := Lib.hid hres
  clear h1 h2 hr hres
  go_enter Tryd.func26, Tryd.ntmps26
  go_wp2_with fail
  go_loopg [5] l.length (fun k x wr => ∃ i : Nat, k + i = l.length ∧ x = .int .i64 (i : Int) ∧ w = wr ∧ ∀ j (h : j < l.length), j < i → l[j] ≠ n)
  case atStart => exact ⟨0, by omega, by go_num, rfl, fun j _ h => by omega⟩
  case round =>
    obtain ⟨i, hki, rfl, rfl, hno⟩ := hrel
    have HKI := Lib.hid hki
    have HNO := Lib.hid hno
    clear hno hki
    by_cases hi : i < l.length
    · obtain rfl := H1.out (by omega)
      have cx := H2.out i hi
      have hiI : (i : Int) < (l.length : Int) := by omega
      have hi0 : (0 : Int) ≤ (i : Int) := by omega
      by_cases he : l[i] = n
      · have hm : n ∈ l := by rw [← he]; simp
        obtain rfl : res = true := by rw [← HR.out]; exact decide_eq_true hm
        rw [he] at cx
        clear hm he
        go_wp2
        go_ret
        exact ⟨rfl, rfl⟩
      · have hb : (l[i] == n) = false := by rw [beq_eq_false_iff_ne]; exact he
        have HE := Lib.hid he
        generalize hx : l[i] = x at *
        have HXE := Lib.hid hx
        clear he hx
        go_wp2_with fail
        go_roundg (gk - 1)
        case measure => have := HKI.out; omega
        case rel => exact ⟨i + 1, by have := HKI.out; omega, by go_num, rfl, fun j hj hji => by
          by_cases e : j = i
          · subst e; rw [HXE.out]; exact HE.out
          · exact HNO.out j hj (by omega)⟩
    · have hm : ¬ n ∈ l := fun hm => by
        obtain ⟨j, hj, e⟩ := List.mem_iff_getElem.1 hm
        exact HNO.out j hj (by omega) e
      obtain rfl : res = false := by rw [← HR.out]; exact decide_eq_false hm
      have hiI : ¬ (i : Int) < (l.length : Int) := by omega
      clear hm
      go_wp2
      go_ret
      exact ⟨rfl, rfl⟩

theorem has_yes (v : Value) (l : List Int) (n : Int) (w : World) (h : Ints w v l) (hm : n ∈ l) :
    Calls Tryd.prog 26 #[v, .int .i64 n] w fun e w' => e = .returned (.bool true) ∧ w = w' := by
  have := has_any v l n w h
  rw [decide_eq_true hm] at this
  exact this

set_option maxRecDepth 100000 in
set_option maxHeartbeats 16000000 in
theorem nextAfter_walk (pv : Value) (d : Dn) (c : Int) (W : World) (ht : Tab W) (hpl : IsPlans W pv d.rules) (hd : DnI d) (hc : I64 c) :
    Calls Tryd.prog 11 #[.agg (dnc d pv), .int .i64 c] W fun e w' => e = .returned (.bool true) ∧ Ext W w' := by
  have EE := ext_al (Ext.refl W) (Obj.cells (dnc d pv) 25)
  have HMO := Lib.hid (model_any pv d _ (hpl.ext EE) hd)
  have D := d.drawn
  have HEE := Lib.hid EE
  have HTB := Lib.hid (ht.ext EE)
  obtain ⟨c1, c2⟩ := hc
  generalize d.md = m at *
  simp only [dnc] at HMO HEE HTB ⊢
  clear ht hpl hd EE
  go_enter Tryd.func11, Tryd.ntmps11
  go_wp2_with fail
  generalize W.alloc (Obj.cells #[.int .i64 d.s0, .int .i64 d.s1, .int .i64 d.l0, .int .i64 d.l1, .int .i64 d.i0, .int .i64 d.i1, pv] 25) = W0 at *
  refine HMO.out.mono ?_
  rintro e w1 ⟨vv, rv, rfl, hM, hE1⟩
  obtain ⟨av, cv, ar, cr, rfl, rfl⟩ := hM.shape D.two
  have hx := ext_al (Ext.refl w1) (Obj.cells #[.slice av 2 cv, .slice ar m.rules.length cr] 29)
  have hb := blk_new w1 (Obj.cells #[.slice av 2 cv, .slice ar m.rules.length cr] 29)
  have HM := Lib.hid (hM.ext hx)
  have HX := Lib.hid (HEE.out.trans (hE1.trans hx))
  have HT := Lib.hid (HTB.out.ext (hE1.trans hx))
  have HB := Lib.hid hb
  have HX0 := HX
  have m0 := blk_cell hb (i := 0) rfl
  have m1 := blk_cell hb (i := 1) rfl
  clear hM hE1 hx hb HMO HEE HTB
  have hn1 := D.n1
  have hn16 := D.n16
  have h5 := D.five
  have HD := Lib.hid D
  clear D
  go_wp2_with fail
  generalize w1.alloc (Obj.cells #[.slice av 2 cv, .slice ar m.rules.length cr] 29) = W2 at *
  refine (count_any _ _ m W2 HM.out HT.out HD.out.ok).mono ?_
  rintro e w3 ⟨rfl, hE3⟩
  have HE3 := Lib.hid hE3
  have m0 := cell_later hE3 m0
  have m1 := cell_later hE3 m1
  clear hE3
  obtain ⟨N, hN⟩ : ∃ N, countL m.vars = N := ⟨_, rfl⟩
  rw [hN] at hn1 hn16 ⊢
  have HN := Lib.hid hN
  clear hN
  go_wp2_with fail
  refine (picked_any c N _ c1 c2 (by omega) (by omega)).mono ?_
  rintro e w' ⟨rfl, rfl⟩
  have hb := pk_bd c N (by omega)
  generalize pk c N = k at *
  have HAF := Lib.hid fun (r : Nat) wx (hx : Ext W2 wx) (hr : r < m.rules.length) => afterE_any _ _ m k r wx (HM.out.ext hx) (HT.out.ext hx) HD.out.ok (by rw [HD.out.two]; omega) hb.1 (by rw [HN.out]; exact hb.2) hr
  have HNL := Lib.hid (show nextL m k = if behindL m (valsL m.vars k) m.rules = [] then [k] else setL (behindL m (valsL m.vars k) m.rules) from rfl)
  obtain ⟨hl1, hl2⟩ := nextL_len m k
  go_wp2_with fail
  refine (nextE_any _ _ m k w3 (HM.out.ext HE3.out) (HT.out.ext HE3.out) HD.out.ok (by rw [HD.out.two]; omega) hb.1 (by rw [HN.out]; exact hb.2)).mono ?_
  rintro e w4 ⟨v4, rfl, ho4, hE4⟩
  obtain ⟨L, hL⟩ : ∃ L, nextL m k = L := ⟨_, rfl⟩
  rw [hL] at ho4 HNL hl1 hl2
  have HIL := Lib.hid (show Ints w4 v4 L from ho4.reads)
  obtain ⟨aL, cL, rfl, hrL⟩ := ho4.row
  obtain ⟨bL, oL, q1, q2⟩ := ints_at' hrL
  have HQ2 := Lib.hid q2
  have haL := q1 hl1
  subst haL
  have HE4 := Lib.hid (HE3.out.trans hE4)
  have HB4 := Lib.hid (blk_ext HB.out HE4.out)
  have hL5 : L.length ≤ 5 := by omega
  have HL5 := Lib.hid fun (i : Nat) => (show (behindL m (valsL m.vars k) (m.rules.take i)).length ≤ 5 from Nat.le_trans (behindL_len m _ _) (by rw [List.length_take]; omega))
  clear ho4 hE4 hrL q1 q2 m0 m1 hL hl2
  obtain ⟨xs, hxs⟩ : ∃ xs, valsL m.vars k = xs := ⟨_, rfl⟩
  rw [hxs] at HNL HL5 HAF
  clear hxs
  obtain ⟨rs, hrs⟩ : ∃ rs, m.rules = rs := ⟨_, rfl⟩
  rw [hrs] at HNL HL5 HB4 h5
  have HRS := Lib.hid hrs
  have HAR := Lib.hid fun (r : Nat) (hr : r < rs.length) wx (hx : Ext W2 wx) => (show Calls Tryd.prog 25 #[.agg #[.slice av 2 cv, .slice ar rs.length cr], .int .i64 k, .int .i64 (r : Int)] wx (fun e w' => e = .returned (.tuple #[.int .i64 (aftN m (afterV m rs[r] xs)), .int .i64 (aftE (afterV m rs[r] xs))]) ∧ Ext wx w') from by
    subst hrs
    exact HAF.out r wx hx hr)
  clear HAF hrs
  go_wp2_with fail
  rw [HRS.out] at *
  have HO0 := Lib.hid (show w4.ownsRow w4.heap.size 3 1 (.slice none 0 0) (behindL m xs (rs.take 0)).length (behV m xs rs 0) from World.ownsRow_nil _ _ _ _)
  go_loopg [12, 11] rs.length (fun kk x s wr => ∃ (i : Nat) (as' : Option Addr) (cs' : Nat), kk + i = rs.length ∧ x = .int .i64 (i : Int) ∧ s = .slice as' (behindL m xs (rs.take i)).length cs' ∧ Ext w4 wr ∧ wr.ownsRow w4.heap.size 3 1 (.slice as' (behindL m xs (rs.take i)).length cs') (behindL m xs (rs.take i)).length (behV m xs rs i))
  case atStart => exact ⟨0, none, 0, by omega, by go_num, rfl, Ext.refl _, HO0.out⟩
  case round =>
    obtain ⟨i, as', cs', hki, rfl, rfl, hE, hO⟩ := hrel
    clear HO0
    have HKI := Lib.hid hki
    have HX := Lib.hid hE
    have HO := Lib.hid hO
    have m0 := blk_cell (blk_ext HB4.out hE) (i := 0) rfl
    have m1 := blk_cell (blk_ext HB4.out hE) (i := 1) rfl
    by_cases hi : i < rs.length
    · have hiI : (i : Int) < (rs.length : Int) := by omega
      have hi0 : (0 : Int) ≤ (i : Int) := by omega
      have HAC := Lib.hid (HAR.out i hi wr (HE4.out.trans hE))
      have HBN := Lib.hid fun (he : afterV m rs[i] xs = none) => behV_none hi he
      have HBS := Lib.hid fun (ys : List Int) (he : afterV m rs[i] xs = some ys) => behV_some hi he
      have h5i := HL5.out i
      generalize afterV m rs[i] xs = ra at *
      clear hE hO hki
      go_wp2_with fail
      refine HAC.out.mono ?_
      rintro e w5 ⟨rfl, hE5⟩
      cases ra with
      | none =>
        have HO5 := Lib.hid (own_ext HO.out hE5)
        have HX5 := Lib.hid (HX.out.trans hE5)
        obtain ⟨hn1, hn2⟩ := HBN.out rfl
        have HN1 := Lib.hid hn1
        have HN2 := Lib.hid hn2
        have e1 : aftE (none : Option (List Int)) = 11 := rfl
        rw [e1]
        clear hE5 hn1 hn2 HBN HBS HAC e1
        generalize aftN m none = z at *
        go_wp2_with fail
        go_roundg (gk - 1)
        case measure => have := HKI.out; omega
        case rel => exact ⟨i + 1, as', cs', by have := HKI.out; omega, by go_num, by rw [HN2.out], HX5.out, by rw [HN1.out, HN2.out]; exact HO5.out⟩
      | some ys =>
        have HO5 := Lib.hid fun (o : Obj) => own_ext (own_ext HO.out hE5) (ext_al (Ext.refl w5) o)
        have HX5 := Lib.hid (HX.out.trans hE5)
        obtain ⟨hn1, hn2⟩ := HBS.out ys rfl
        have HN1 := Lib.hid hn1
        have HN2 := Lib.hid hn2
        have e1 : aftE (some ys) = 0 := rfl
        have e2 : aftN m (some ys) = codeL m.vars ys 0 := rfl
        rw [e1, e2]
        have h15 := HX5.out.size
        clear hE5 hn1 hn2 HBN HBS HAC e1 e2
        go_wp2_with (at_builtin; go_must (refine wpl_append rfl rfl Tryd.slInts w4.heap.size rfl (HO5.out _) rfl (Row.oneM _ _ _ _ (by simp)) (one_int _) (by unfold maxLen; omega) (by omega) (by simp; omega) ?_))
        intro v6 w6 hown6 hg6 hb6 _
        obtain ⟨a6, c6, rfl, _⟩ := hown6.row
        have HE6 := Lib.hid (show Ext w4 w6 from Below.grown (HX5.out.trans (ext_al (Ext.refl w5) _)) hg6 (by simp; omega) (fun b hb => ((HO5.out (Obj.cells #[] 0)).lt b hb).1))
        rw [← HN1.out, ← HN2.out] at hown6
        have HO6 := Lib.hid hown6
        clear hown6 hg6 hb6
        go_wp2_with fail
        go_roundg (gk - 1)
        case measure => have := HKI.out; omega
        case rel => exact ⟨i + 1, a6, c6, by have := HKI.out; omega, by go_num, by rw [HN2.out], HE6.out, HO6.out⟩
    · obtain rfl : i = rs.length := by omega
      have hiI : ¬ (rs.length : Int) < (rs.length : Int) := by omega
      have h5i := HL5.out rs.length
      unfold behV at hO
      rw [List.take_length] at hO h5i ⊢
      obtain ⟨B, hB⟩ : ∃ B, behindL m xs rs = B := ⟨_, rfl⟩
      rw [hB] at hO h5i HNL ⊢
      have HIB := Lib.hid (show Ints wr _ B from hO.reads)
      have HIL2 := Lib.hid (HIL.out.ext hE)
      obtain ⟨_, _, e0, hrB⟩ := hO.row
      simp only [Value.slice.injEq] at e0
      obtain ⟨rfl, _, rfl⟩ := e0
      obtain ⟨bB, oB, p1, p2⟩ := ints_at' hrB
      have HP1 := Lib.hid p1
      have HP2 := Lib.hid p2
      have HXW := Lib.hid (HX.out)
      have HWW := Lib.hid (HX0.out.trans (HE4.out.trans hE))
      clear hE hO hki hB p1 p2 hrB m0 HO
      by_cases hB0 : B = []
      · obtain rfl : L = [k] := by rw [HNL.out, if_pos hB0]
        subst hB0
        have cx := cell_later HXW.out (HQ2.out 0 (by simp))
        have cx : wr.cell? ⟨bL, oL, none⟩ = some (.int .i64 k) := cx
        go_wp2
        go_ret
        exact ⟨rfl, HWW.out⟩
      · have HMEM := Lib.hid fun (x : Int) => (show x ∈ L ↔ x ∈ B from by
          rw [HNL.out, if_neg hB0]
          exact (setL_up B).2 x)
        have hbl : ((B.length : Int) == 0) = false := by
          rw [beq_eq_false_iff_ne]
          intro e
          exact hB0 (List.eq_nil_of_length_eq_zero (by omega))
        clear hB0
        go_wp2_with fail
        clear hbl
        go_loopg [15] B.length (fun kk x wx => ∃ i : Nat, kk + i = B.length ∧ x = .int .i64 (i : Int) ∧ wr = wx)
        case atStart => exact ⟨0, by omega, by go_num, rfl⟩
        case round =>
          obtain ⟨i, hki, rfl, rfl⟩ := hrel
          have HKI := Lib.hid hki
          by_cases hi : i < B.length
          · obtain rfl := HP1.out (by omega)
            have cx := HP2.out i hi
            have HHY := Lib.hid (has_yes _ _ B[i] wr HIL2.out ((HMEM.out _).2 (by simp)))
            have hiI : (i : Int) < (B.length : Int) := by omega
            have hi0 : (0 : Int) ≤ (i : Int) := by omega
            clear hki
            generalize B[i] = x at *
            go_wp2_with fail
            refine HHY.out.mono ?_
            rintro e w' ⟨rfl, rfl⟩
            go_wp2_with fail
            go_roundg (gk - 1)
            case measure => have := HKI.out; omega
            case rel => exact ⟨i + 1, by have := HKI.out; omega, by go_num, rfl⟩
          · have hiI : ¬ (i : Int) < (B.length : Int) := by omega
            clear hki
            go_wp2_with fail
            go_loopg [16] L.length (fun kk x wx => ∃ i : Nat, kk + i = L.length ∧ x = .int .i64 (i : Int) ∧ wr = wx)
            case atStart => exact ⟨0, by omega, by go_num, rfl⟩
            case round =>
              obtain ⟨i, hki, rfl, rfl⟩ := hrel
              have HKI := Lib.hid hki
              by_cases hi : i < L.length
              · have cx := cell_later HXW.out (HQ2.out i hi)
                have HHY := Lib.hid (has_yes _ _ L[i] wr HIB.out ((HMEM.out _).1 (by simp)))
                have hiI : (i : Int) < (L.length : Int) := by omega
                have hi0 : (0 : Int) ≤ (i : Int) := by omega
                clear hki
                generalize L[i] = x at *
                go_wp2_with fail
                refine HHY.out.mono ?_
                rintro e w' ⟨rfl, rfl⟩
                go_wp2_with fail
                go_roundg (gk - 1)
                case measure => have := HKI.out; omega
                case rel => exact ⟨i + 1, by have := HKI.out; omega, by go_num, rfl⟩
              · have hiI : ¬ (i : Int) < (L.length : Int) := by omega
                clear hki
                go_wp2
                go_ret
                exact ⟨rfl, HWW.out⟩

theorem nextAfter_law (cs : Array Value) (v1 : Value) (W : World) (ht : Tab W) (h0 : Cells Tryd.prog W 25 cs.toList) (h1 : Cells Tryd.prog W 3 [v1]) :
    Calls Tryd.prog 11 #[.agg cs, v1] W fun e w' => e = .returned (.bool true) ∧ Ext W w' := by
  obtain ⟨d, pv, rfl, hpl, hd⟩ := design_of h0
  obtain ⟨n1, e1, i1⟩ := h1.i64 Tryd.underlying3
  cases e1
  exact nextAfter_walk pv d n1 W ht hpl hd i1

end Go.Proofs.YtcmbehpilldlpaaDoor
