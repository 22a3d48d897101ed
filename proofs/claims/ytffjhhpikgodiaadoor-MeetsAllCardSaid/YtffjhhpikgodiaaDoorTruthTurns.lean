/- The law TruthTurns. -/
import Derived.Test.YtffjhhpikgodiaaDoorTruA
import Derived.Test.YtffjhhpikgodiaaDoorFormC
import Derived.Test.YtffjhhpikgodiaaDoorJoinG
import Derived.Test.YtffjhhpikgodiaaDoorRawF
import Derived.Test.YtffjhhpikgodiaaDoorLetter
namespace Go.Proofs.YtffjhhpikgodiaaDoor
open Go.RowKit

theorem forO_isF (raw : List Op2) (k : Nat) (hk : k ≤ 6) : IsF (forO raw 3 k).flat 3 (forO raw 3 k) := by
  have h1 := fT_small raw 3 4 k
  have h2 := fT_cnt raw 3 4 0 k
  exact ⟨fT_ok raw 3 4 0 k, rfl, by unfold forO; omega, fT_fit raw 3 4 0 k, by unfold forO; omega, by omega, by omega⟩

theorem isF_not {l : List Op2} {t : Tm} (h : IsF l 3 t) (hs : t.size ≤ 50) : IsF (Tm.n1 10 0 t).flat 3 (.n1 10 0 t) := by
  have hfl := h.flat
  refine ⟨⟨by omega, by omega, rfl, h.ok⟩, rfl, by simp only [Tm.size]; omega, ?_, ?_, by omega, by omega⟩
  · intro o ho
    rcases List.mem_cons.1 ho with rfl | ho
    · exact ⟨by simp, by simp, fun h => by simp at h, fun _ => rfl⟩
    · rw [hfl] at ho; exact h.fit o ho
  · have := h.cnt
    rw [← hfl] at this
    simpa [Tm.flat, cntA, aheadB] using this

theorem tv_not (L : List Bool) (c : Nat) (t : Tm) : tvT L c (.n1 10 0 t) 0 = (!(tvT L c t 0).headD false) :: tvT L c t 0 := by
  simp [tvT, aheadB]

theorem headD_get {l : List Bool} (h : 0 < l.length) : l[0]? = some (l.headD false) := by
  cases l with
  | nil => simp at h
  | cons x l => rfl

set_option maxRecDepth 100000 in
set_option maxHeartbeats 8000000 in
theorem truthTurns_walk (v0 : Value) (raw : List Op2) (n cl : Int) (w : World) (ht : Tab w) (h : Ops w v0 raw) (hraw : RawF raw) (hn : I64 n) (hcl : I64 cl) :
    Calls Tryd.prog 3 #[v0, .int .i64 n, .int .i64 cl] w fun e w' => e = .returned (.bool true) ∧ Ext w w' := by
  have HMK := Lib.hid (mkFormula v0 raw 3 4 w h hraw (by omega) (by omega) (by omega))
  have hf := forO_isF raw 4 (by omega)
  have hsm := fT_small raw 3 4 4
  have hsz : (forO raw 3 4).size ≤ 17 := by unfold forO; omega
  have hfn := isF_not hf (by omega)
  generalize forO raw 3 4 = t at *
  obtain ⟨l, hl⟩ : ∃ l, t.flat = l := ⟨_, rfl⟩
  have hln : (Tm.n1 10 0 t).flat = (10, 0) :: l := by rw [← hl]; rfl
  rw [hln] at hfn
  have hpos : 0 < l.length := by rw [← hl, Tm.flat_len]; exact t.size_pos
  have hl17 : l.length ≤ 17 := by rw [← hl, Tm.flat_len]; exact hsz
  have HMK := Lib.hid (show Calls Tryd.prog 16 #[v0, .int .i64 3, .int .i64 ((4 : Nat) : Int)] w fun e w' => ∃ v', e = .returned v' ∧ w'.ownsRow w.heap.size 51 2 v' l.length (l.flatMap opc) ∧ Ext w w' from by rw [← hl]; exact HMK.out)
  rw [hl] at hf
  have htl : ∀ c, (tvT (letL n) c t 0).length = l.length := fun c => by rw [tvT_len, ← Tm.flat_len, hl]
  have htv : ∀ c i k v, l[i]? = some (k, v) → TvAt (letL n) c l (t.ends 0) (tvT (letL n) c t 0) i k v := fun c i k v hi => by
    have := tv_at (letL n) c t hf.ok i k v (by rw [hl]; exact hi)
    rw [hl] at this; exact this
  have HIS := Lib.hid (show IsT = IsT from rfl)
  obtain ⟨N, hN⟩ : ∃ N, cntA l = N := ⟨_, rfl⟩
  have hN6 : N ≤ 6 := by rw [← hN]; exact hf.cnt
  have hpl : (plL l).length = N := by rw [plL_len, hN]
  have hcp : 2 ^ N ≤ 2 ^ 6 := Nat.pow_le_pow_right (by omega) hN6
  have hcp1 := Nat.two_pow_pos N
  have hpe : ((2 ^ N : Nat) : Int) = (2 : Int) ^ N := by push_cast; rfl
  have hw0 : IntKind.i64.wrap ((2 : Int) ^ N) = ((2 ^ N : Nat) : Int) := by rw [← hpe]; exact IntWalk.i64_in _ (by omega)
  unfold I64 at hcl
  have HPK := Lib.hid fun wx => picked_any cl ((2 ^ N : Nat) : Int) wx hcl.1 hcl.2 (by omega) (by omega)
  obtain ⟨c0, c1⟩ := pk_bd cl ((2 ^ N : Nat) : Int) (by omega)
  obtain ⟨c, hc⟩ : ∃ c : Nat, pk cl ((2 ^ N : Nat) : Int) = (c : Int) := ⟨(pk cl ((2 ^ N : Nat) : Int)).toNat, by omega⟩
  rw [hc] at c0 c1 HPK
  have hcN : c < 2 ^ N := by omega
  have hc64 : c < 64 := by omega
  have HTVN := Lib.hid (tv_not (letL n) c t)
  have HTL := Lib.hid (htl c)
  have HTV := Lib.hid (htv c)
  have HF := Lib.hid hf
  have HFN := Lib.hid hfn
  have HNN := Lib.hid hN
  have HCN := Lib.hid hcN
  have HLN := Lib.hid hn
  have HTB := Lib.hid ht
  obtain ⟨PM, hPM⟩ : ∃ PM : Int, ((2 ^ N : Nat) : Int) = PM := ⟨_, rfl⟩
  rw [hPM] at hw0 HPK
  clear hf hfn htl htv hN hcN hc hcp hcp1 hpe hPM c0 c1 hcl h hl hln hsm ht hsz hn HIS
  go_enter Tryd.func3, Tryd.ntmps3
  go_wp2_with fail
  refine HMK.out.mono ?_
  rintro e w1 ⟨vf, rfl, hown, hE1⟩
  obtain ⟨af, cf, rfl, hrf⟩ := hown.row
  have HO := Lib.hid (show Ops w1 (.slice af l.length cf) l from ⟨_, _, rfl, hrf⟩)
  have HE1 := Lib.hid hE1
  clear hown hrf hE1 HMK
  go_wp2_with fail
  refine (places_any _ l 3 t w1 HO.out (HTB.out.ext HE1.out) HF.out).mono ?_
  rintro e w2 ⟨ap, cp, rfl, hop, hE2⟩
  rw [hpl] at hop ⊢
  have HOP := Lib.hid hop
  have HE2 := Lib.hid hE2
  clear hop hE2
  go_wp2_with fail
  refine (HPK.out _).mono ?_
  rintro e wx ⟨rfl, rfl⟩
  go_wp2_with fail
  refine (letter_any n _ HLN.out).mono ?_
  rintro e w3 ⟨aL, rfl, hoL, hE3⟩
  have HBL := Lib.hid (show Bools w3 (.slice (some ⟨aL, 0, none⟩) 3 3) (letL n) from World.ownsRow.reads hoL)
  have HE3 := Lib.hid ((HE1.out.trans HE2.out).trans hE3)
  have HO3 := Lib.hid (ops_ext (ops_ext HO.out HE2.out) hE3)
  have HOP3 := Lib.hid (own_ext HOP.out hE3)
  clear hoL hE3 HOP HE2 HO HE1
  go_wp2_with fail
  refine (truths_any _ l t _ (letL n) c w3 HO3.out (HTB.out.ext HE3.out) HF.out HBL.out (by rw [HNN.out]; exact HCN.out)).mono ?_
  rintro e w4 ⟨D, rfl, hot, hE4⟩
  have HOT := Lib.hid hot
  have HE4 := Lib.hid (HE3.out.trans hE4)
  have HO4 := Lib.hid (ops_ext HO3.out hE4)
  have HOP4 := Lib.hid (own_ext HOP3.out hE4)
  clear hot hE4 HO3 HOP3 HE3 HBL
  go_wp2_with fail
  refine (join1 10 _ l w4 _ HO4.out (by omega)).mono ?_
  rintro e w5 ⟨vj, rfl, hoj, hE5⟩
  have HOJ := Lib.hid hoj
  have HE5 := Lib.hid (HE4.out.trans hE5)
  have HOT5 := Lib.hid (own_ext HOT.out hE5)
  have HOP5 := Lib.hid (own_ext HOP4.out hE5)
  clear hoj hE5 HOT HOP4 HE4 HO4
  go_wp2_with fail
  refine (letter_any n _ HLN.out).mono ?_
  rintro e w6 ⟨aM, rfl, hoL, hE6⟩
  have HBL := Lib.hid (show Bools w6 (.slice (some ⟨aM, 0, none⟩) 3 3) (letL n) from World.ownsRow.reads hoL)
  have HE6 := Lib.hid (HE5.out.trans hE6)
  have HOT6 := Lib.hid (own_ext HOT5.out hE6)
  have HOP6 := Lib.hid (own_ext HOP5.out hE6)
  have HOJ6 := Lib.hid (ops_ext HOJ.out hE6)
  clear hoL hE6 HOT5 HOP5 HE5 HOJ
  obtain ⟨aj, cj, rfl, hrj⟩ := HOJ6.out
  have HRJ := Lib.hid (show Ops w6 (.slice aj ((10, 0) :: l).length cj) ((10, 0) :: l) from ⟨_, _, rfl, hrj⟩)
  have HCZ := Lib.hid (show cntA ((10, 0) :: l) = N by have := HNN.out; simp only [cntA, aheadB]; simpa using this)
  clear hrj HOJ6
  go_wp2_with fail
  refine (truths_any _ ((10, 0) :: l) (.n1 10 0 t) _ (letL n) c w6 HRJ.out (HTB.out.ext HE6.out) HFN.out HBL.out (by rw [HCZ.out]; exact HCN.out)).mono ?_
  rintro e w7 ⟨D2, rfl, hou, hE7⟩
  rw [HTVN.out] at hou
  have HOU := Lib.hid hou
  have HE7 := Lib.hid (HE6.out.trans hE7)
  have HOT7 := Lib.hid (own_ext HOT6.out hE7)
  have HOP7 := Lib.hid (own_ext HOP6.out hE7)
  clear hou hE7 HOT6 HOP6 HE6 HBL HRJ
  generalize tvT (letL n) c t 0 = tv at *
  have c0 := own_bool HOT7.out (i := 0) (headD_get (by rw [HTL.out]; exact hpos))
  have d0 := own_bool HOU.out (i := 0) (x := !tv.headD false) rfl
  simp only [List.length_cons] at *
  have hposI : (0 : Int) < (l.length : Int) := by omega
  have hlI : ((l.length + 1 : Nat) : Int) = (l.length : Int) + 1 := by omega
  generalize tv.headD false = b at *
  have hbb : (!b == b) = false := by cases b <;> rfl
  go_wp2_with fail
  go_quiet (fail)
  obtain ⟨q0, rfl⟩ : ∃ q0 : Nat, q0 = nq := ⟨_, rfl⟩
  go_wp2_with fail
  clear c0 d0 hbb
  go_loopg [15] N (fun m x wr => ∃ i q : Nat, m + i = N ∧ x = .int .i64 (i : Int) ∧ wr = w7.drewN q)
  case atStart => exact ⟨0, q0, by omega, by go_num, rfl⟩
  case round =>
    obtain ⟨i, q, hmi, rfl, rfl⟩ := hrel
    have HMI := Lib.hid hmi
    by_cases hi : i < N
    · obtain ⟨_, _, e, hrp⟩ := HOP7.out.row
      simp only [Value.slice.injEq] at e
      obtain ⟨rfl, _, rfl⟩ := e
      obtain ⟨bp, op, hp1, hp2⟩ := row_ints hrp
      obtain rfl := hp1 (by rw [hpl]; omega)
      obtain ⟨a, ha⟩ : ∃ a, (plUp l l.length)[i]? = some a := by
        have hlen : (plUp l l.length).length = N := by rw [plUp_len l _ (Nat.le_refl _), List.take_length]; exact HNN.out
        exact ⟨_, List.getElem?_eq_getElem (by omega)⟩
      obtain ⟨ha1, ha2, ha3⟩ := plUp_get l l.length (Nat.le_refl _) i a ha
      have cP := hp2 i (a : Int) (by rw [plL, List.getElem?_map, ha]; rfl)
      have hga : l[a]? = some (l.getD a (0, 0)) := by simp [List.getD, List.getElem?_eq_getElem ha1]
      have hta := (HTV.out a (l.getD a (0, 0)).1 (l.getD a (0, 0)).2 hga).ah ha2
      rw [ha3] at hta
      have cT := own_bool HOT7.out hta
      have hbt := bit_shr c i hc64
      have hiI : (i : Int) < (N : Int) := by omega
      have hi0 : (0 : Int) ≤ (i : Int) := by omega
      have haI : (a : Int) < (l.length : Int) := by omega
      have ha0 : (0 : Int) ≤ (a : Int) := by omega
      generalize c.testBit i = bb at *
      clear hmi hp1 hp2 hrp ha ha2 ha3 hga hta
      go_wp2_with fail
      go_quiet (fail)
      go_wp2_with fail
      go_roundg (gk - 1)
      case measure => have := HMI.out; omega
      case rel => exact ⟨i + 1, _, by have := HMI.out; omega, by go_num, rfl⟩
    · have hiI : ¬ (i : Int) < (N : Int) := by omega
      clear hmi
      go_wp2_with fail
      obtain ⟨q1, rfl⟩ : ∃ q1 : Nat, q1 = q := ⟨_, rfl⟩
      go_loopg [16] l.length (fun m x wr => ∃ i q : Nat, m + i = l.length ∧ x = .int .i64 (i : Int) ∧ wr = w7.drewN q)
      case atStart => exact ⟨0, q1, by omega, by go_num, rfl⟩
      case round =>
        obtain ⟨k, q, hmk, rfl, rfl⟩ := hrel
        have HMK := Lib.hid hmk
        by_cases hk : k < l.length
        · have hg := getD_some (l := tv) (i := k) (by rw [HTL.out]; exact hk)
          have cT := own_bool HOT7.out hg
          have cU := own_bool HOU.out (i := k + 1) (x := tv.getD k false) (by rw [List.getElem?_cons_succ]; exact hg)
          have hkI : (k : Int) < (l.length : Int) := by omega
          have hk0 : (0 : Int) ≤ (k : Int) := by omega
          have hk1I : (k : Int) + 1 < (l.length : Int) + 1 := by omega
          have hk10 : (0 : Int) ≤ (k : Int) + 1 := by omega
          have hkt : ((k : Int) + 1).toNat = k + 1 := by omega
          generalize tv.getD k false = bb at *
          clear hmk hg
          go_wp2_with fail
          go_quiet (fail)
          go_wp2_with fail
          go_roundg (gk - 1)
          case measure => have := HMK.out; omega
          case rel => exact ⟨k + 1, _, by have := HMK.out; omega, by go_num, rfl⟩
        · have hkI : ¬ (k : Int) < (l.length : Int) := by omega
          clear hmk
          have HEQ := Lib.hid (below_drewN HE7.out q)
          go_wp2
          go_ret
          exact ⟨rfl, HEQ.out⟩

theorem truthTurns_law (v0 v1 v2 : Value) (W : World) (ht : Tab W) (h0 : Cells Tryd.prog W 22 [v0]) (h1 : Cells Tryd.prog W 3 [v1]) (h2 : Cells Tryd.prog W 3 [v2]) :
    Calls Tryd.prog 3 #[v0, v1, v2] W fun e w' => e = .returned (.bool true) ∧ Ext W w' := by
  obtain ⟨raw, h, hraw⟩ := raw_for h0
  obtain ⟨a, ha, ha2⟩ := h1.i64 Tryd.underlying3
  obtain ⟨b, hb, hb2⟩ := h2.i64 Tryd.underlying3
  cases ha; cases hb
  exact truthTurns_walk v0 raw a b W ht h hraw ha2 hb2

end Go.Proofs.YtffjhhpikgodiaaDoor
