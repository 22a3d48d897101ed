/- The law MeetsAll. -/
import Derived.Test.YtffjhhpikgodiaaDoorTruthTurns
import Derived.Test.YtffjhhpikgodiaaDoorMeets
namespace Go.Proofs.YtffjhhpikgodiaaDoor
open Go.RowKit

theorem cntA_none : ∀ {l : List Op2}, cntA l = 0 → ∀ i, aheadB (l.getD i (0, 0)).1 = false
  | [], _, i => by simp [aheadB]
  | o :: l, h, 0 => by
    cases e : aheadB o.1
    · simpa using e
    · simp [cntA, e] at h
  | o :: l, h, i + 1 => by
    have h2 : cntA l = 0 := by simp only [cntA] at h; omega
    simpa using cntA_none h2 i

theorem meUp_one (k : Int) (l : List Op2) (es : List Int) (tv : List Bool) (h1 : aheadB k = true) (h2 : cntA l = 0) (h3 : metB k es tv 0 = true) : ∀ i, meUp ((k, 0) :: l) es tv (i + 1) = 1
  | 0 => by simp [meUp, h1, h3, cntA]
  | i + 1 => by
    have ih := meUp_one k l es tv h1 h2 h3 i
    have hn := cntA_none h2 i
    rw [meUp, ih]
    have e : (((k, (0 : Int)) :: l).getD (i + 1) (0, 0)) = l.getD i (0, 0) := by simp
    rw [e, hn]
    rfl

theorem isF_one (k : Int) {t : Tm} (h : IsF t.flat 3 t) (hk : k = 14) (hs : t.size ≤ 50) (hc : cntA t.flat = 0) : IsF (Tm.n1 k 0 t).flat 3 (.n1 k 0 t) := by
  subst hk
  refine ⟨⟨by omega, by omega, rfl, h.ok⟩, rfl, by simp only [Tm.size]; omega, ?_, ?_, by omega, by omega⟩
  · intro o ho
    rcases List.mem_cons.1 ho with rfl | ho
    · exact ⟨by simp, by simp, fun h => by simp at h, fun _ => rfl⟩
    · exact h.fit o ho
  · simp [Tm.flat, cntA, aheadB, hc]
theorem isF_two (k : Int) {a b : Tm} (h : IsF a.flat 3 a) (h' : IsF b.flat 3 b) (hk : k = 15 ∨ k = 16) (hs : a.size + b.size ≤ 50) (hc : cntA a.flat = 0) (hc' : cntA b.flat = 0) : IsF (Tm.n2 k 0 a b).flat 3 (.n2 k 0 a b) := by
  have hk1 : 1 ≤ k ∧ k ≤ 18 ∧ partsOf k = 2 ∧ 8 ≤ k ∧ k ≠ 13 := by rcases hk with rfl | rfl <;> decide
  obtain ⟨q1, q2, q3, q4, q5⟩ := hk1
  refine ⟨⟨q1, q2, q3, h.ok, h'.ok⟩, rfl, by simp only [Tm.size]; omega, ?_, ?_, by omega, by omega⟩
  · intro o ho
    rcases List.mem_cons.1 ho with rfl | ho
    · exact ⟨q4, q2, fun h => absurd h q5, fun _ => rfl⟩
    · rcases List.mem_append.1 ho with ho | ho
      · exact h.fit o ho
      · exact h'.fit o ho
  · simp only [Tm.flat, cntA, cntA_app, hc, hc']
    split <;> omega

section
variable (v vl : Value) (L : List Bool) (w : World) (ht : Tab w) (hL : Bools w vl L) (hL3 : L.length = 3)
include ht hL hL3

theorem meets_gen (t : Tm) (k : Int) (l : List Op2) (c : Nat) (h : IsT w v t) (hfl : t.flat = (k, 0) :: l) (hf : IsF t.flat 3 t) (ha : aheadB k = true) (hc0 : cntA l = 0) (hc : c < 2) (hm : metB k (t.ends 0) (tvT L c t 0) 0 = true) :
    Calls Tryd.prog 22 #[v, vl, .int .i64 (c : Int)] w fun e w' => e = .returned (.tuple #[.int .i64 1, .int .i64 0]) ∧ Ext w w' := by
  have hcn : cntA t.flat = 1 := by rw [hfl]; simp [cntA, ha, hc0]
  refine (meets_any v t.flat t vl L c w h ht (by rw [hL3]; exact hf) hL (by rw [hcn]; exact hc)).mono ?_
  rintro e w' ⟨rfl, hE⟩
  refine ⟨?_, hE⟩
  rw [hfl]
  have := meUp_one k l (t.ends 0) (tvT L c t 0) ha hc0 hm l.length
  rw [List.length_cons, this]
  rfl

theorem meets_next (a : Tm) (c : Nat) (hc : c < 2) (h : IsT w v (.n1 14 0 a)) (hf : IsF a.flat 3 a) (hs : a.size ≤ 50) (h0 : cntA a.flat = 0) :
    Calls Tryd.prog 22 #[v, vl, .int .i64 (c : Int)] w fun e w' => e = .returned (.tuple #[.int .i64 1, .int .i64 0]) ∧ Ext w w' :=
  meets_gen v vl L w ht hL hL3 (.n1 14 0 a) 14 a.flat c h rfl (isF_one 14 hf rfl hs h0) rfl h0 hc rfl
theorem meets_next0 (a : Tm) (h : IsT w v (.n1 14 0 a)) (hf : IsF a.flat 3 a) (hs : a.size ≤ 50) (h0 : cntA a.flat = 0) :
    Calls Tryd.prog 22 #[v, vl, .int .i64 0] w fun e w' => e = .returned (.tuple #[.int .i64 1, .int .i64 0]) ∧ Ext w w' := meets_next v vl L w ht hL hL3 a 0 (by omega) h hf hs h0
theorem meets_next1 (a : Tm) (h : IsT w v (.n1 14 0 a)) (hf : IsF a.flat 3 a) (hs : a.size ≤ 50) (h0 : cntA a.flat = 0) :
    Calls Tryd.prog 22 #[v, vl, .int .i64 1] w fun e w' => e = .returned (.tuple #[.int .i64 1, .int .i64 0]) ∧ Ext w w' := meets_next v vl L w ht hL hL3 a 1 (by omega) h hf hs h0
theorem meets_until (a b : Tm) (h : IsT w v (.n2 15 0 a b)) (hf : IsF a.flat 3 a) (hf' : IsF b.flat 3 b) (hs : a.size + b.size ≤ 50) (h0 : cntA a.flat = 0) (h0' : cntA b.flat = 0) :
    Calls Tryd.prog 22 #[v, vl, .int .i64 0] w fun e w' => e = .returned (.tuple #[.int .i64 1, .int .i64 0]) ∧ Ext w w' :=
  meets_gen v vl L w ht hL hL3 (.n2 15 0 a b) 15 (a.flat ++ b.flat) 0 h rfl (isF_two 15 hf hf' (.inl rfl) hs h0 h0') rfl (by rw [cntA_app, h0, h0']) (by omega) (by simp [metB, tvT, aheadB])
theorem meets_release (a b : Tm) (h : IsT w v (.n2 16 0 a b)) (hf : IsF a.flat 3 a) (hf' : IsF b.flat 3 b) (hs : a.size + b.size ≤ 50) (h0 : cntA a.flat = 0) (h0' : cntA b.flat = 0) :
    Calls Tryd.prog 22 #[v, vl, .int .i64 1] w fun e w' => e = .returned (.tuple #[.int .i64 1, .int .i64 0]) ∧ Ext w w' :=
  meets_gen v vl L w ht hL hL3 (.n2 16 0 a b) 16 (a.flat ++ b.flat) 1 h rfl (isF_two 16 hf hf' (.inr rfl) hs h0 h0') rfl (by rw [cntA_app, h0, h0']) (by omega) (by simp [metB, tvT, aheadB])
end

set_option maxRecDepth 100000 in
set_option maxHeartbeats 8000000 in
theorem meetsAll_walk (v0 v1 : Value) (rx ry : List Op2) (n : Int) (w : World) (ht : Tab w) (h : Ops w v0 rx) (h' : Ops w v1 ry) (hraw : RawF rx) (hraw' : RawF ry) (hn : I64 n) :
    Calls Tryd.prog 4 #[v0, v1, .int .i64 n] w fun e w' => e = .returned (.bool true) ∧ Ext w w' := by
  have HMX := Lib.hid (mkFormula v0 rx 3 0 w h hraw (by omega) (by omega) (by omega))
  have HMY := Lib.hid fun wx (hx : Ext w wx) => mkFormula v1 ry 3 0 wx (ops_ext h' hx) hraw' (by omega) (by omega) (by omega)
  have hfa := forO_isF rx 0 (by omega)
  have hfb := forO_isF ry 0 (by omega)
  have hsa : (forO rx 3 0).size ≤ 17 := by have := fT_small rx 3 4 0; unfold forO; omega
  have hsb : (forO ry 3 0).size ≤ 17 := by have := fT_small ry 3 4 0; unfold forO; omega
  have hca : cntA (forO rx 3 0).flat = 0 := by have := fT_cnt rx 3 4 0 0; unfold forO; omega
  have hcb : cntA (forO ry 3 0).flat = 0 := by have := fT_cnt ry 3 4 0 0; unfold forO; omega
  generalize forO rx 3 0 = a at *
  generalize forO ry 3 0 = b at *
  have HLN := Lib.hid hn
  have HTB := Lib.hid ht
  have HFA := Lib.hid hfa
  have HFB := Lib.hid hfb
  have HCA := Lib.hid hca
  have HCB := Lib.hid hcb
  clear h h' hraw hraw' hn ht hfa hfb hca hcb
  go_enter Tryd.func4, Tryd.ntmps4
  go_wp2_with fail
  refine HMX.out.mono ?_
  rintro e w1 ⟨va, rfl, hown, hE1⟩
  have HA := Lib.hid (show IsT w1 va a from ops_own hown)
  have HE1 := Lib.hid hE1
  clear hown hE1 HMX
  go_wp2_with fail
  refine (HMY.out _ HE1.out).mono ?_
  rintro e w2 ⟨vb, rfl, hown, hE2⟩
  have HB2 := Lib.hid (show IsT w2 vb b from ops_own hown)
  have HA2 := Lib.hid (HA.out.ext hE2)
  have HE2 := Lib.hid (HE1.out.trans hE2)
  clear hown hE2 HMY HE1 HA
  obtain ⟨aa, ca, rfl, _⟩ := HA2.out
  obtain ⟨ab, cb, rfl, _⟩ := HB2.out
  have HA2 := Lib.hid (show IsT w2 (.slice aa a.flat.length ca) a from HA2.out)
  have HB2 := Lib.hid (show IsT w2 (.slice ab b.flat.length cb) b from HB2.out)
  go_wp2_with fail
  refine (joinT1 14 _ a w2 _ HA2.out (by omega)).mono ?_
  rintro e w3 ⟨vj, rfl, hj, hE⟩
  obtain ⟨aj, cj, hvj, hrj⟩ := hj
  subst hvj
  have HJ := Lib.hid (show IsT w3 (.slice aj (Tm.n1 14 0 a).flat.length cj) (Tm.n1 14 0 a) from ⟨aj, cj, rfl, hrj⟩)
  have HAx := Lib.hid (HA2.out.ext hE)
  have HBx := Lib.hid (HB2.out.ext hE)
  have HEx := Lib.hid (HE2.out.trans hE)
  clear hrj hE HA2 HB2 HE2
  go_wp2_with fail
  refine (letter_any n _ HLN.out).mono ?_
  rintro e w4 ⟨aL, rfl, hoL, hE⟩
  have HBL := Lib.hid (show Bools w4 (.slice (some ⟨aL, 0, none⟩) 3 3) (letL n) from World.ownsRow.reads hoL)
  have HJ2 := Lib.hid (HJ.out.ext hE)
  have HAy := Lib.hid (HAx.out.ext hE)
  have HBy := Lib.hid (HBx.out.ext hE)
  have HEy := Lib.hid (HEx.out.trans hE)
  clear hoL hE HAx HBx HEx HJ
  go_wp2_with fail
  refine (meets_next0 _ _ (letL n) w4 (HTB.out.ext HEy.out) HBL.out (letL_len n) a HJ2.out HFA.out (by omega) HCA.out).mono ?_
  rintro e w5 ⟨rfl, hE⟩
  have HA5 := Lib.hid (HAy.out.ext hE)
  have HB5 := Lib.hid (HBy.out.ext hE)
  have HE5 := Lib.hid (HEy.out.trans hE)
  clear hE HAy HBy HEy HJ2 HBL
  go_wp2_with fail
  refine (joinT1 14 _ a w5 _ HA5.out (by omega)).mono ?_
  rintro e w6 ⟨vj, rfl, hj, hE⟩
  obtain ⟨aj, cj, hvj, hrj⟩ := hj
  subst hvj
  have HJ := Lib.hid (show IsT w6 (.slice aj (Tm.n1 14 0 a).flat.length cj) (Tm.n1 14 0 a) from ⟨aj, cj, rfl, hrj⟩)
  have HAx := Lib.hid (HA5.out.ext hE)
  have HBx := Lib.hid (HB5.out.ext hE)
  have HEx := Lib.hid (HE5.out.trans hE)
  clear hrj hE HA5 HB5 HE5
  go_wp2_with fail
  refine (letter_any n _ HLN.out).mono ?_
  rintro e w7 ⟨aL, rfl, hoL, hE⟩
  have HBL := Lib.hid (show Bools w7 (.slice (some ⟨aL, 0, none⟩) 3 3) (letL n) from World.ownsRow.reads hoL)
  have HJ2 := Lib.hid (HJ.out.ext hE)
  have HAy := Lib.hid (HAx.out.ext hE)
  have HBy := Lib.hid (HBx.out.ext hE)
  have HEy := Lib.hid (HEx.out.trans hE)
  clear hoL hE HAx HBx HEx HJ
  go_wp2_with fail
  refine (meets_next1 _ _ (letL n) w7 (HTB.out.ext HEy.out) HBL.out (letL_len n) a HJ2.out HFA.out (by omega) HCA.out).mono ?_
  rintro e w8 ⟨rfl, hE⟩
  have HA8 := Lib.hid (HAy.out.ext hE)
  have HB8 := Lib.hid (HBy.out.ext hE)
  have HE8 := Lib.hid (HEy.out.trans hE)
  clear hE HAy HBy HEy HJ2 HBL
  go_wp2_with fail
  refine (joinT2 15 _ _ a b w8 _ HA8.out HB8.out (by omega)).mono ?_
  rintro e w9 ⟨vj, rfl, hj, hE⟩
  obtain ⟨aj, cj, hvj, hrj⟩ := hj
  subst hvj
  have HJ := Lib.hid (show IsT w9 (.slice aj (Tm.n2 15 0 a b).flat.length cj) (Tm.n2 15 0 a b) from ⟨aj, cj, rfl, hrj⟩)
  have HAx := Lib.hid (HA8.out.ext hE)
  have HBx := Lib.hid (HB8.out.ext hE)
  have HEx := Lib.hid (HE8.out.trans hE)
  clear hrj hE HA8 HB8 HE8
  go_wp2_with fail
  refine (letter_any n _ HLN.out).mono ?_
  rintro e w10 ⟨aL, rfl, hoL, hE⟩
  have HBL := Lib.hid (show Bools w10 (.slice (some ⟨aL, 0, none⟩) 3 3) (letL n) from World.ownsRow.reads hoL)
  have HJ2 := Lib.hid (HJ.out.ext hE)
  have HAy := Lib.hid (HAx.out.ext hE)
  have HBy := Lib.hid (HBx.out.ext hE)
  have HEy := Lib.hid (HEx.out.trans hE)
  clear hoL hE HAx HBx HEx HJ
  go_wp2_with fail
  refine (meets_until _ _ (letL n) w10 (HTB.out.ext HEy.out) HBL.out (letL_len n) a b HJ2.out HFA.out HFB.out (by omega) HCA.out HCB.out).mono ?_
  rintro e w11 ⟨rfl, hE⟩
  have HA11 := Lib.hid (HAy.out.ext hE)
  have HB11 := Lib.hid (HBy.out.ext hE)
  have HE11 := Lib.hid (HEy.out.trans hE)
  clear hE HAy HBy HEy HJ2 HBL
  go_wp2_with fail
  refine (joinT2 16 _ _ a b w11 _ HA11.out HB11.out (by omega)).mono ?_
  rintro e w12 ⟨vj, rfl, hj, hE⟩
  obtain ⟨aj, cj, hvj, hrj⟩ := hj
  subst hvj
  have HJ := Lib.hid (show IsT w12 (.slice aj (Tm.n2 16 0 a b).flat.length cj) (Tm.n2 16 0 a b) from ⟨aj, cj, rfl, hrj⟩)
  have HAx := Lib.hid (HA11.out.ext hE)
  have HBx := Lib.hid (HB11.out.ext hE)
  have HEx := Lib.hid (HE11.out.trans hE)
  clear hrj hE HA11 HB11 HE11
  go_wp2_with fail
  refine (letter_any n _ HLN.out).mono ?_
  rintro e w13 ⟨aL, rfl, hoL, hE⟩
  have HBL := Lib.hid (show Bools w13 (.slice (some ⟨aL, 0, none⟩) 3 3) (letL n) from World.ownsRow.reads hoL)
  have HJ2 := Lib.hid (HJ.out.ext hE)
  have HAy := Lib.hid (HAx.out.ext hE)
  have HBy := Lib.hid (HBx.out.ext hE)
  have HEy := Lib.hid (HEx.out.trans hE)
  clear hoL hE HAx HBx HEx HJ
  go_wp2_with fail
  refine (meets_release _ _ (letL n) w13 (HTB.out.ext HEy.out) HBL.out (letL_len n) a b HJ2.out HFA.out HFB.out (by omega) HCA.out HCB.out).mono ?_
  rintro e w14 ⟨rfl, hE⟩
  have HE14 := Lib.hid (HEy.out.trans hE)
  clear hE HAy HBy HEy HJ2 HBL
  go_wp2
  go_ret
  exact ⟨rfl, HE14.out⟩

theorem meetsAll_law (v0 v1 v2 : Value) (W : World) (ht : Tab W) (h0 : Cells Tryd.prog W 22 [v0]) (h1 : Cells Tryd.prog W 22 [v1]) (h2 : Cells Tryd.prog W 3 [v2]) :
    Calls Tryd.prog 4 #[v0, v1, v2] W fun e w' => e = .returned (.bool true) ∧ Ext W w' := by
  obtain ⟨rx, h, hraw⟩ := raw_for h0
  obtain ⟨ry, h', hraw'⟩ := raw_for h1
  obtain ⟨b, hb, hb2⟩ := h2.i64 Tryd.underlying3
  cases hb
  exact meetsAll_walk v0 v1 rx ry b W ht h h' hraw hraw' hb2

end Go.Proofs.YtffjhhpikgodiaaDoor
