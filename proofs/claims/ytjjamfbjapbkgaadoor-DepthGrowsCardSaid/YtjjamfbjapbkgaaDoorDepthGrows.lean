/- The law DepthGrows. -/
import Derived.Test.YtjjamfbjapbkgaaDoorCheckType
import Derived.Test.YtjjamfbjapbkgaaDoorDepth
namespace Go.Proofs.YtjjamfbjapbkgaaDoor
open Go.RowKit

/-- As long as its term. -/
theorem IsT.len {w : World} {a : Option Addr} {n c : Nat} {t : Tm} (h : IsT w (.slice a n c) t) : n = t.size := by
  obtain ⟨a', c', hv, _⟩ := h
  cases hv
  exact t.flat_len

set_option maxRecDepth 100000 in
set_option maxHeartbeats 2000000 in
theorem depthGrows_law (v0 v1 : Value) (W : World) (ht : Tab W) (h0 : Cells Tryd.prog W 22 [v0]) (h1 : Cells Tryd.prog W 22 [v1]) :
    Calls Tryd.prog 6 #[v0, v1] W fun e w' => e = .returned (.bool true) ∧ Ext W w' := by
  obtain ⟨raw, h, hraw⟩ := raw_of h0
  obtain ⟨raw2, hh, hraw2⟩ := raw_of h1
  go_enter Tryd.func6, Tryd.ntmps6
  go_wp2_with fail
  refine (mkTruth v0 raw 3 W h hraw (by omega)).mono ?_
  rintro e w1 ⟨va, rfl, hown, hE1⟩
  have hia := isT_own hown
  obtain ⟨aa, na, ca, rfl⟩ := hia.val
  obtain rfl := hia.len
  have FA := Lib.hid (fit_tru raw 3 (by omega))
  generalize truO raw 3 = a at *
  have hh1 := ops_ext hh hE1
  clear hown h h0 h1 hh
  go_wp2_with fail
  refine (mkTruth v1 raw2 3 w1 hh1 hraw2 (by omega)).mono ?_
  rintro e w2 ⟨vb, rfl, hown, hE2⟩
  have hib := isT_own hown
  obtain ⟨ab, nb, cb, rfl⟩ := hib.val
  have FB := Lib.hid (fit_tru raw2 3 (by omega))
  generalize truO raw2 3 = b at *
  have HA := Lib.hid (hia.ext hE2)
  have HB := Lib.hid hib
  have HE := Lib.hid (hE1.trans hE2)
  have HTab := Lib.hid (ht.ext (hE1.trans hE2))
  clear hown hh1 hia hib hE1 hE2 ht
  have hsa := FA.out.size
  have hsb := FB.out.size
  have hda := a.deep_le
  have hdb := b.deep_le
  have hpa := a.deep_pos
  go_wp2_with fail
  refine (depth_t _ a w2 HA.out HTab.out FA.out.ok (by omega)).mono ?_
  rintro e w3 ⟨rfl, hE⟩
  have HA3 := Lib.hid (HA.out.ext hE)
  have HB3 := Lib.hid (HB.out.ext hE)
  have HTab3 := Lib.hid (HTab.out.ext hE)
  have HE3 := Lib.hid (HE.out.trans hE)
  clear hE HA HB HTab HE
  go_wp2_with fail
  refine (depth_t _ b w3 HB3.out HTab3.out FB.out.ok (by omega)).mono ?_
  rintro e w4 ⟨rfl, hE⟩
  have HA4 := Lib.hid (HA3.out.ext hE)
  have HB4 := Lib.hid (HB3.out.ext hE)
  have HTab4 := Lib.hid (HTab3.out.ext hE)
  have HE4 := Lib.hid (HE3.out.trans hE)
  clear hE HA3 HB3 HTab3 HE3
  go_wp2_with fail
  refine (joinT2 8 _ _ a b _ _ HA4.out HB4.out (by omega)).mono ?_
  rintro e w5 ⟨v5, rfl, hi, hE⟩
  go_wp2_with fail
  refine (depth_t v5 _ w5 hi (HTab4.out.ext hE) (ok_n2 (by omega) FA.out.ok FB.out.ok) (by simp only [Tm.size]; omega)).mono ?_
  rintro e w6 ⟨rfl, hE'⟩
  have HE6 := Lib.hid (HE4.out.trans (hE.trans hE'))
  have hd : (((Tm.n2 8 0 a b).deep : Nat) : Int) = (if (a.deep : Int) < b.deep then (b.deep : Int) else a.deep) + 1 := by
    simp only [Tm.deep]
    split <;> omega
  rw [hd]
  have HD : Hid ((((Tm.n2 8 0 a b).deep : Nat) : Int) = (if (a.deep : Int) < b.deep then (b.deep : Int) else a.deep) + 1) := hd
  clear hd hi hE hE' HA4 HB4 HTab4 HE4
  generalize a.deep = x at *
  generalize b.deep = y at *
  generalize a.size = m at *
  generalize b.size = n at *
  go_wp2
  all_goals
    go_ret
    exact ⟨rfl, HE6.out⟩

end Go.Proofs.YtjjamfbjapbkgaaDoor
