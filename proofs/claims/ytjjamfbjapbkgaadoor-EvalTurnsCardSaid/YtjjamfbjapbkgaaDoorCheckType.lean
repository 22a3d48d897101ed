/- The law CheckType. -/
import Derived.Test.YtjjamfbjapbkgaaDoorEndsNest
import Derived.Test.YtjjamfbjapbkgaaDoorJoinT
namespace Go.Proofs.YtjjamfbjapbkgaaDoor
open Go.RowKit

theorem isT_own {w : World} {base : Nat} {v : Value} {t : Tm} (h : w.ownsRow base 32 2 v t.flat.length (t.flat.flatMap opc)) : IsT w v t := ops_own h

theorem IsT.val {w : World} {v : Value} {t : Tm} (h : IsT w v t) : ∃ a n c, v = .slice a n c := by
  obtain ⟨a, c, rfl, _⟩ := h
  exact ⟨_, _, _, rfl⟩

/-- What the laws need of a term that was drawn. -/
structure Fit (t : Tm) (vars : Int) (n : Nat) (truth : Bool) : Prop where
  ok : t.ok
  typed : t.typed = true
  kind : mkK t.kind = truth
  good : t.good vars
  size : t.size ≤ n

theorem fit_num (raw : List Op2) (vars : Int) (h : vars ≤ 1000) : Fit (numO raw vars) vars 7 false := by
  obtain ⟨h1, h2, h3⟩ := numT_typed raw vars h 2 0
  exact ⟨numT_ok raw vars 2 0, h1, h2, h3, numT_two raw vars 0⟩

theorem fit_tru (raw : List Op2) (vars : Int) (h : vars ≤ 1000) : Fit (truO raw vars) vars 26 true := by
  obtain ⟨h1, h2, h3⟩ := truT_typed raw vars h 3 0
  exact ⟨truT_ok raw vars 3 0, h1, h2, h3, truT_small raw vars⟩

theorem ok_n2 {k : Int} {a b : Tm} (hk : 3 ≤ k ∧ k ≤ 9) (ha : a.ok) (hb : b.ok) : (Tm.n2 k 0 a b).ok := by
  refine ⟨by omega, by omega, ?_, ha, hb⟩
  unfold partsOf
  rw [if_pos (by omega)]

theorem ok_n1 {a : Tm} (ha : a.ok) : (Tm.n1 10 0 a).ok := by
  refine ⟨by omega, by omega, ?_, ha⟩
  unfold partsOf
  simp

/-- Check of a term of two parts, or of one. -/
theorem check_n2 (k : Int) (b : Bool) (c : Int) (v : Value) (x y : Tm) (vars : Int) (w : World) (m n : Nat) (p q : Bool) (h : IsT w v (.n2 k 0 x y)) (ht : Tab w) (h1 : 0 ≤ vars) (h2 : vars ≤ 6) (hx : Fit x vars m p) (hy : Fit y vars n q) (hk : 3 ≤ k ∧ k ≤ 9) (hmn : m + n < 60)
    (hb : b = ((p == tkK k && q == tkK k) && mkK k)) (hc : c = if (p == tkK k && q == tkK k) then 0 else 5) :
    Calls Tryd.prog 23 #[v, .int .i64 vars] w fun e w' => e = .returned (.tuple #[.bool b, .int .i64 c]) ∧ Ext w w' := by
  have hty : (Tm.n2 k 0 x y).typed = (p == tkK k && q == tkK k) := by simp [Tm.typed, hx.typed, hy.typed, hx.kind, hy.kind]
  have := check_t v (.n2 k 0 x y) vars w h ht h1 h2 (ok_n2 hk hx.ok hy.ok) (by have := hx.size; have := hy.size; simp only [Tm.size]; omega) (good_n2 (by omega) (by omega) hx.good hy.good)
  rw [hty] at this
  rw [hb, hc]
  exact this

theorem check_n1 (b : Bool) (c : Int) (v : Value) (x : Tm) (vars : Int) (w : World) (m : Nat) (p : Bool) (h : IsT w v (.n1 10 0 x)) (ht : Tab w) (h1 : 0 ≤ vars) (h2 : vars ≤ 6) (hx : Fit x vars m p) (hmn : m < 60)
    (hb : b = p) (hc : c = if p then 0 else 5) :
    Calls Tryd.prog 23 #[v, .int .i64 vars] w fun e w' => e = .returned (.tuple #[.bool b, .int .i64 c]) ∧ Ext w w' := by
  have hty : (Tm.n1 10 0 x).typed = p := by
    have : tkK 10 = true := rfl
    simp [Tm.typed, hx.typed, hx.kind, this]
  have := check_t v (.n1 10 0 x) vars w h ht h1 h2 (ok_n1 hx.ok) (by have := hx.size; simp only [Tm.size]; omega) (good_n1 (by omega) (by omega) hx.good)
  rw [hty] at this
  rw [hb, hc]
  have e : mkK (Tm.n1 10 0 x).kind = true := rfl
  rw [e, Bool.and_true] at this
  exact this

theorem check_one (b : Bool) (v : Value) (x : Tm) (vars : Int) (w : World) (m : Nat) (p : Bool) (h : IsT w v x) (ht : Tab w) (h1 : 0 ≤ vars) (h2 : vars ≤ 6) (hx : Fit x vars m p) (hmn : m ≤ 60) (hb : b = p) :
    Calls Tryd.prog 23 #[v, .int .i64 vars] w fun e w' => e = .returned (.tuple #[.bool b, .int .i64 0]) ∧ Ext w w' := by
  have := check_t v x vars w h ht h1 h2 hx.ok (by have := hx.size; omega) hx.good
  rw [hx.typed, hx.kind] at this
  subst hb
  simpa using this

set_option maxRecDepth 100000 in
set_option maxHeartbeats 2000000 in
theorem checkType_law (v0 v1 : Value) (W : World) (ht : Tab W) (h0 : Cells Tryd.prog W 22 [v0]) (h1 : Cells Tryd.prog W 22 [v1]) :
    Calls Tryd.prog 7 #[v0, v1] W fun e w' => e = .returned (.bool true) ∧ Ext W w' := by
  obtain ⟨raw, h, hraw⟩ := raw_of h0
  obtain ⟨raw2, hh, hraw2⟩ := raw_of h1
  go_enter Tryd.func7, Tryd.ntmps7
  go_wp2_with fail
  refine (mkNumber v0 raw 3 W h hraw (by omega)).mono ?_
  rintro e w1 ⟨vn, rfl, hown, hE1⟩
  have hin := isT_own hown
  obtain ⟨an, nn, cn, rfl⟩ := hin.val
  have FN := Lib.hid (fit_num raw 3 (by omega))
  generalize numO raw 3 = n at *
  have hh1 := ops_ext hh hE1
  clear hown h h0 h1 hh
  go_wp2_with fail
  refine (mkTruth v1 raw2 3 w1 hh1 hraw2 (by omega)).mono ?_
  rintro e w2 ⟨vt, rfl, hown, hE2⟩
  have hit := isT_own hown
  obtain ⟨at', nt, ct, rfl⟩ := hit.val
  have FT := Lib.hid (fit_tru raw2 3 (by omega))
  generalize truO raw2 3 = t at *
  have HN := Lib.hid (hin.ext hE2)
  have HT := Lib.hid hit
  have HE := Lib.hid (hE1.trans hE2)
  have HTab := Lib.hid (ht.ext (hE1.trans hE2))
  clear hown hh1 hin hit hE1 hE2 ht
  have hsn := FN.out.size
  have hst := FT.out.size
  -- And of a truth and a number
  go_wp2_with fail
  refine (joinT2 8 _ _ t n _ _ HT.out HN.out (by omega)).mono ?_
  rintro e w3 ⟨v3, rfl, hi, hE⟩
  go_wp2_with fail
  refine (check_n2 8 false 5 v3 t n 3 w3 26 7 true false hi (HTab.out.ext hE) (by omega) (by omega) FT.out FN.out (by omega) (by omega) rfl rfl).mono ?_
  rintro e w4 ⟨rfl, hE'⟩
  have hEE := hE.trans hE'
  have HN4 := Lib.hid (HN.out.ext hEE)
  have HT4 := Lib.hid (HT.out.ext hEE)
  have HTab4 := Lib.hid (HTab.out.ext hEE)
  have HE4 := Lib.hid (HE.out.trans hEE)
  clear hi hE hE' hEE HN HT HTab HE
  -- Eq of a number and a truth
  go_wp2_with fail
  refine (joinT2 6 _ _ n t _ _ HN4.out HT4.out (by omega)).mono ?_
  rintro e w5 ⟨v5, rfl, hi, hE⟩
  go_wp2_with fail
  refine (check_n2 6 false 5 v5 n t 3 w5 7 26 false true hi (HTab4.out.ext hE) (by omega) (by omega) FN.out FT.out (by omega) (by omega) rfl rfl).mono ?_
  rintro e w6 ⟨rfl, hE'⟩
  have hEE := hE.trans hE'
  have HN6 := Lib.hid (HN4.out.ext hEE)
  have HTab6 := Lib.hid (HTab4.out.ext hEE)
  have HE6 := Lib.hid (HE4.out.trans hEE)
  clear hi hE hE' hEE HN4 HT4 HTab4 HE4
  -- Not of a number
  go_wp2_with fail
  refine (joinT1 10 _ n _ _ HN6.out (by omega)).mono ?_
  rintro e w7 ⟨v7, rfl, hi, hE⟩
  go_wp2_with fail
  refine (check_n1 false 5 v7 n 3 w7 7 false hi (HTab6.out.ext hE) (by omega) (by omega) FN.out (by omega) rfl rfl).mono ?_
  rintro e w8 ⟨rfl, hE'⟩
  have hEE := hE.trans hE'
  have HN8 := Lib.hid (HN6.out.ext hEE)
  have HTab8 := Lib.hid (HTab6.out.ext hEE)
  have HE8 := Lib.hid (HE6.out.trans hEE)
  clear hi hE hE' hEE HN6 HTab6 HE6
  -- the number
  go_wp2_with fail
  refine (check_one false _ n 3 w8 7 false HN8.out HTab8.out (by omega) (by omega) FN.out (by omega) rfl).mono ?_
  rintro e w9 ⟨rfl, hE⟩
  have HN9 := Lib.hid (HN8.out.ext hE)
  have HTab9 := Lib.hid (HTab8.out.ext hE)
  have HE9 := Lib.hid (HE8.out.trans hE)
  clear hE HN8 HTab8 HE8
  -- Lt of two numbers
  go_wp2_with fail
  refine (joinT2 7 _ _ n n _ _ HN9.out HN9.out (by omega)).mono ?_
  rintro e w10 ⟨v10, rfl, hi, hE⟩
  go_wp2_with fail
  refine (check_n2 7 true 0 v10 n n 3 w10 7 7 false false hi (HTab9.out.ext hE) (by omega) (by omega) FN.out FN.out (by omega) (by omega) rfl rfl).mono ?_
  rintro e w11 ⟨rfl, hE'⟩
  have HE11 := Lib.hid (HE9.out.trans (hE.trans hE'))
  clear hi hE hE' HN9 HTab9 HE9
  go_wp2
  go_ret
  exact ⟨rfl, HE11.out⟩

end Go.Proofs.YtjjamfbjapbkgaaDoor
