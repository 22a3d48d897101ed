/- The law ReachClosed. -/
import Derived.Test.YtkkbefhnklpfaaaDoorMdU
import Derived.Test.YtkkbefhnklpfaaaDoorMdV
import Derived.Test.YtkkbefhnklpfaaaDoorHas
import Derived.Deep.DeepCutAuto
import Derived.Deep.RegionLaw
namespace Go.Proofs.YtkkbefhnklpfaaaDoor
open Go.RowKit

theorem ReachS.back {m : Md} {x : Int} (h : ReachS m x) : x = m.first ∨ ∃ c, ReachS m c ∧ NextP m c x := by
  cases h with
  | first => exact .inl rfl
  | next h1 h2 => exact .inr ⟨_, h1, h2⟩

set_option maxRecDepth 100000 in
set_option maxHeartbeats 16000000 in
theorem reachClosed_walk (pv : Value) (d : Dn)  (W : World) (ht : Tab W) (hpl : IsPlans W pv d.rules) (hd : DnI d)  :
    Calls Tryd.prog 5 #[.agg (dnc d pv)] W fun e w' => e = .returned (.bool true) ∧ Ext W w' := by
  have EE := ext_al (Ext.refl W) (Obj.cells (dnc d pv) 25)
  have HMO := Lib.hid (model_any pv d _ (hpl.ext EE) hd)
  have D := d.drawn
  have HEE := Lib.hid EE
  have HTB := Lib.hid (ht.ext EE)
  generalize d.md = m at *
  simp only [dnc] at HMO HEE HTB ⊢
  clear ht hpl hd EE
  go_enter Tryd.func5, Tryd.ntmps5
  go_wp2_with fail
  generalize W.alloc (Obj.cells #[.int .i64 d.s0, .int .i64 d.s1, .int .i64 d.l0, .int .i64 d.l1, .int .i64 d.i0, .int .i64 d.i1, pv] 25) = W0 at *
  refine HMO.out.mono ?_
  rintro e w1 ⟨vv, rv, rfl, hM, hE1⟩
  obtain ⟨av, cv, ar, cr, rfl, rfl⟩ := hM.shape D.two
  have hx := ext_al (Ext.refl w1) (Obj.cells #[.slice av 2 cv, .slice ar m.rules.length cr] 29)
  have hb := blk_new w1 (Obj.cells #[.slice av 2 cv, .slice ar m.rules.length cr] 29)
  have HM := Lib.hid (hM.ext hx)
  have HX := Lib.hid (HEE.out.trans (hE1.trans hx))
  have HT := Lib.hid (HTB.out.ext (hE1.trans hx))
  have HB := Lib.hid hb
  have m0 := blk_cell hb (i := 0) rfl
  have m1 := blk_cell hb (i := 1) rfl
  clear hM hE1 hx hb HMO HEE HTB
  have hn1 := D.n1
  have hn16 := D.n16
  have h5 := D.five
  have HD := Lib.hid D
  clear D
  go_wp2_with fail
  generalize w1.alloc (Obj.cells #[.slice av 2 cv, .slice ar m.rules.length cr] 29) = W2 at *
  have HFI := Lib.hid fun wx (hx : Ext W2 wx) => first_any _ _ m wx (HM.out.ext hx) (HT.out.ext hx) HD.out.ok
  have HNX := Lib.hid fun (c : Int) wx (hx : Ext W2 wx) (hc : ReachS m c) => nextE_any _ _ m c wx (HM.out.ext hx) (HT.out.ext hx) HD.out.ok (by rw [HD.out.two]; omega) (hc.bd HD.out.ok.toPre).1 (hc.bd HD.out.ok.toPre).2
  have H12 := Lib.hid fun c => (show (nextL m c).length ≤ 12 from by have := (nextL_len m c).2; have := HD.out.ok.twelve; omega)
  refine (reach_any _ _ m W2 HM.out HT.out HD.out.ok (by rw [HD.out.two]; omega)).mono ?_
  rintro e w3 ⟨v3, L, rfl, ho3, hUp, hL4, hMem, hE3⟩
  have HE3 := Lib.hid hE3
  have m0 := cell_later hE3 m0
  have m1 := cell_later hE3 m1
  have HUP := Lib.hid hUp
  have HMEM := Lib.hid hMem
  obtain ⟨aL, cL, rfl, hr3⟩ := id ho3.row
  obtain ⟨bL, oL, r1, r2⟩ := ints_at' hr3
  have hcap := hr3.le
  have HR1 := Lib.hid r1
  have HR2 := Lib.hid r2
  have HIL := Lib.hid (show Ints w3 (.slice aL L.length cL) L from ho3.reads)
  clear hE3 hUp hMem ho3 hr3 r1 r2
  go_wp2_with fail
  refine (HFI.out _ HE3.out).mono ?_
  rintro e w4 ⟨rfl, hE4⟩
  have m0 := cell_later hE4 m0
  have m1 := cell_later hE4 m1
  have HE4 := Lib.hid (HE3.out.trans hE4)
  have HX34 := Lib.hid hE4
  have HHY := Lib.hid fun (x : Int) wx (hx : Ext w3 wx) (hm : x ∈ L) => has_yes _ L x wx (HIL.out.ext hx) hm
  have HF1 := Lib.hid ((HMEM.out m.first).2 .first)
  clear hE4 HFI
  have HFF := Lib.hid fun (x : Int) (hx : ReachS m x) => hx.back
  generalize m.first = fi at *
  go_wp2_with fail
  refine (HHY.out fi w4 HX34.out HF1.out).mono ?_
  rintro e w' ⟨rfl, rfl⟩
  have HM0 := Lib.hid m0
  have HM1 := Lib.hid m1
  clear m0 m1
  go_wp2_with fail
  have HO0 := Lib.hid (show w4.ownsRow w4.heap.size 3 1 (.slice none 0 0) ([] : List Int).length (([] : List Int).map (.int .i64)) from World.ownsRow_nil _ _ _ _)
  go_loopg [9, 8] L.length (fun g x y wr => ∃ (i : Nat) (B : List Int) (ab : Option Addr) (cb : Nat), g + i = L.length ∧ x = .int .i64 (i : Int) ∧ y = .slice ab B.length cb ∧ Ext w4 wr ∧ wr.ownsRow w4.heap.size 3 1 (.slice ab B.length cb) B.length (B.map (.int .i64)) ∧ B.length ≤ 12 * i ∧ ∀ (t : Nat) (h : t < L.length), t < i → ∀ d, NextP m L[t] d → d ∈ B)
  case atStart => exact ⟨0, [], none, 0, by omega, by go_num, rfl, Ext.refl _, HO0.out, by simp, fun t _ h => by omega⟩
  case round =>
    obtain ⟨i, B, ab, cb, hgi, rfl, rfl, hE, hO, hB12, hBm⟩ := hrel
    have HGI := Lib.hid hgi
    have HEE := Lib.hid hE
    have HOO := Lib.hid hO
    have HBM := Lib.hid hBm
    have m0 := cell_later hE HM0.out
    have m1 := cell_later hE HM1.out
    obtain ⟨nB, hnB⟩ : ∃ x, B.length = x := ⟨_, rfl⟩
    rw [hnB] at HOO hB12 ⊢
    have HNB := Lib.hid hnB
    clear hgi hE hO hBm hnB HO0
    by_cases hi : i < L.length
    · obtain rfl := HR1.out (by omega)
      have cx := cell_later (HX34.out.trans HEE.out) (HR2.out i hi)
      have HUJ := Lib.hid fun (j : Nat) (hj : j < i) => List.pairwise_iff_getElem.1 HUP.out j i (Nat.lt_trans hj hi) hi hj
      have HCJ := Lib.hid fun (j : Nat) (hj : j < i) => cell_later (HX34.out.trans HEE.out) (HR2.out j (Nat.lt_trans hj hi))
      have hRc := (HMEM.out L[i]).1 (by simp)
      have HNC := Lib.hid fun wx (hx : Ext wr wx) => HNX.out L[i] wx (HE4.out.trans (HEE.out.trans hx)) hRc
      have hn1 := (nextL_len m L[i]).1
      have hn2 := H12.out L[i]
      have HNM := Lib.hid fun d => (nextL_ok m L[i]).mem d
      have HLI := Lib.hid (show L[i]? = some L[i] from List.getElem?_eq_getElem hi)
      have HBN := Lib.hid fun (X : List Int) (hX : ∀ x ∈ B, x ∈ X) (hd : ∀ d, NextP m L[i] d → d ∈ X) (t : Nat) (h : t < L.length) (hti : t < i + 1) (d : Int) (hn : NextP m L[t] d) => (show d ∈ X from by
        by_cases e : t = i
        · subst e; exact hd d hn
        · exact hX d (HBM.out t h (by omega) d hn))
      generalize L[i] = c at *
      have HRC := Lib.hid hRc
      obtain ⟨ns, hns⟩ : ∃ ns, nextL m c = ns := ⟨_, rfl⟩
      rw [hns] at HNC HNM hn1 hn2
      have hiI : (i : Int) < (L.length : Int) := by omega
      have hi0 : (0 : Int) ≤ (i : Int) := by omega
      clear hRc hns
      go_upto_region 10 with fail
      go_cut [10, 11] (fun s9 s10 wx => s10 = .int .i64 0 ∧ ∃ (Q cq : Nat), s9 = .slice (some ⟨Q, 0, none⟩) ns.length cq ∧ wx.ownsRow wr.heap.size 3 1 (.slice (some ⟨Q, 0, none⟩) ns.length cq) ns.length (ns.map (.int .i64)) ∧ Ext wr wx)
      case first =>
        go_region_law (first
          | (go_simp
             go_at_call 19
             refine (HNC.out _ (Below.drew (Ext.refl _))).mono ?_
             rintro e w5 ⟨v5, rfl, ho5, hE5⟩
             obtain ⟨Q, cq, rfl⟩ := own_shape ho5 hn1
             have HO5 := Lib.hid (own_down ho5 (Below.drew (Ext.refl wr)).size)
             have HE5 := Lib.hid (Ext.trans (Below.drew (Ext.refl _)) hE5)
             clear ho5 hE5))
        all_goals
          go_wp2_with fail
          go_meet
          exact ⟨rfl, Q, cq, rfl, HO5.out, HE5.out⟩
      case rest =>
        obtain ⟨rfl, Q, cq, rfl, ho5, hE5⟩ := hcut
        have HE5 := Lib.hid (HEE.out.trans hE5)
        have HO5 := Lib.hid (own_ext HOO.out hE5)
        have HQ5 := Lib.hid ho5
        have hQ := (ho5.lt Q rfl).1
        have hws := HEE.out.size
        have HLQ := Lib.hid (show ∀ b, (Value.slice ab nB cb).ownBlock = some b → b ≠ Q from fun b hb e => by
          have := (HOO.out.lt b hb).2
          omega)
        have HC5 := Lib.hid (show ∀ n, Ext w4 (wc.drewN n) from fun n => below_drewN HE5.out n)
        have HQN := Lib.hid (show ∀ n, (wc.drewN n).ownsRow wr.heap.size 3 1 (.slice (some ⟨Q, 0, none⟩) ns.length cq) ns.length (ns.map (.int .i64)) from fun n => own_ext ho5 (below_drewN (Ext.refl _) n))
        have HON := Lib.hid (show ∀ n, (wc.drewN n).ownsRow w4.heap.size 3 1 (.slice ab nB cb) nB (B.map (.int .i64)) from fun n => own_ext HO5.out (below_drewN (Ext.refl _) n))
        have cx5 := cell_later hE5 cx
        have HCJ5 := Lib.hid fun (j : Nat) (hj : j < i) => cell_later hE5 (HCJ.out j hj)
        have hqs := hE5.size
        clear m0 m1 ho5 hE5 HNC HO5 HQ5 cx HCJ
        obtain ⟨wo, rfl⟩ : ∃ wo : World, wo = wr := ⟨_, rfl⟩
        obtain ⟨G0, rfl⟩ : ∃ G0 : Nat, G0 = gk := ⟨_, rfl⟩
        obtain ⟨B5, hB5⟩ : ∃ x, wo.heap.size = x := ⟨_, rfl⟩
        rw [hB5] at HQN hQ hws hqs
        clear hB5
        go_upto_region 11 with fail
        have hgo : ∀ (K : Nat → Prop), K 0 → True := fun _ _ => trivial
        clear hgo
        by_cases hz : i = 0
        · have q0 : ¬ 0 < i := by omega
          have q1 : decide ((0 : Int) < (i : Int)) = false := by rw [decide_eq_false_iff_not]; omega
          have q2 : decide (0 < i) = false := by rw [decide_eq_false_iff_not]; omega
          clear hz
          go_quiet (fail)
          clear q0 q1 q2 cx5
          rename_i nq
          have HX6 := Lib.hid (HC5.out nq)
          have HQ6 := Lib.hid (HQN.out nq)
          have HO6 := Lib.hid (HON.out nq)
          have hzs : (wc.drewN nq).heap.size = wc.heap.size := rfl
          have HZS := Lib.hid hzs
          have hqs2 : B5 ≤ wc.heap.size := hqs
          clear hzs
          go_wp2_with fail
          generalize wc.drewN nq = W6 at *
          go_loopg [12, 8] ns.length (fun g x y wq => ∃ (k : Nat) (ab' : Option Addr) (cb' : Nat), g + k = ns.length ∧ x = .int .i64 (k : Int) ∧ y = .slice ab' (nB + k) cb' ∧ Ext w4 wq ∧ wq.ownsRow w4.heap.size 3 1 (.slice ab' (nB + k) cb') (nB + k) ((B ++ ns.take k).map (.int .i64)) ∧ (∀ b, (Value.slice ab' (nB + k) cb').ownBlock = some b → b ≠ Q) ∧ wq.ownsRow B5 3 1 (.slice (some ⟨Q, 0, none⟩) ns.length cq) ns.length (ns.map (.int .i64)))
          case atStart => exact ⟨0, ab, cb, by omega, by go_num, rfl, HX6.out, by simpa using HO6.out, HLQ.out, HQ6.out⟩
          case round =>
            obtain ⟨k, ab', cb', hgk, rfl, rfl, hE, hO, hLQ, hQo⟩ := hrel
            have HGK := Lib.hid hgk
            have HEK := Lib.hid hE
            have HOK := Lib.hid hO
            have HLK := Lib.hid hLQ
            have HQK := Lib.hid hQo
            clear hgk hE hO hLQ
            by_cases hk : k < ns.length
            · have ck := own_cellAt hQo (i := k) (by simpa using hk)
              rw [List.getElem_map] at ck
              have hkI : (k : Int) < (ns.length : Int) := by omega
              have hk0 : (0 : Int) ≤ (k : Int) := by omega
              have hinL : ns[k] ∈ L := (HMEM.out _).2 (ReachS.next HRC.out ((HNM.out ns[k]).1 (by simp)))
              have HHX := Lib.hid (HHY.out ns[k] wr (HX34.out.trans HEK.out) hinL)
              have HTK := Lib.hid (show B ++ ns.take (k + 1) = (B ++ ns.take k) ++ [ns[k]] by rw [List.take_succ_eq_append_getElem hk, List.append_assoc])
              generalize ns[k] = n at *
              clear hQo hinL
              go_wp2_with fail
              refine HHX.out.mono ?_
              rintro e w' ⟨rfl, rfl⟩
              have HAK := Lib.hid (own_ext HOK.out (ext_al (Ext.refl wr) (Obj.cells #[.int .i64 n] 3)))
              have hws6 := HEK.out.size
              go_wp2_with (at_builtin; go_must (refine wpl_append rfl rfl Tryd.slInts w4.heap.size rfl HAK.out rfl (Row.one _ _ _) (one_int _) (by unfold maxLen; omega) (by omega) (by simp; omega) ?_))
              intro v7 w7 hown7 hg7 hb7 _
              obtain ⟨a7, c7, rfl, _⟩ := id hown7.row
              have hA7 := ext_al (Ext.refl wr) (Obj.cells #[.int .i64 n] 3)
              have HE7 := Lib.hid (show Ext w4 w7 from Below.grown (HEK.out.trans hA7) hg7 (HEK.out.trans hA7).size (fun b hb => (HOK.out.lt b hb).1))
              have HQ7 := Lib.hid (own_grown (own_ext HQK.out hA7) hg7 (.inr fun e => HLK.out Q (by rw [← e]; rfl) rfl))
              have HO7 := Lib.hid (show w7.ownsRow w4.heap.size 3 1 (.slice a7 (nB + k + 1) c7) (nB + k + 1) ((B ++ ns.take (k + 1)).map (.int .i64)) from by
                have e1 : (B ++ ns.take (k + 1)).map (Value.int .i64) = List.map (.int .i64) B ++ (List.take k (List.map (.int .i64) ns) ++ [.int .i64 n]) := by rw [HTK.out]; simp [List.map_take]
                rw [e1]
                exact hown7)
              have HL7 := Lib.hid (show ∀ b, (Value.slice a7 (nB + k + 1) c7).ownBlock = some b → b ≠ Q from fun b hb e => by
                rcases hb7 with h | h
                · rw [h] at hb; exact HLK.out b hb e
                · rw [h] at hb
                  injection hb with hb
                  have h2 := (HQK.out.lt Q rfl).2
                  first | omega | (simp at hb; omega))
              clear hown7 hg7 hb7 hA7 ck
              go_wp2_with fail
              go_roundg (gk - 1)
              case measure => have := HGK.out; omega
              case rel => exact ⟨k + 1, a7, c7, by have := HGK.out; omega, by go_num, rfl, HE7.out, HO7.out, HL7.out, HQ7.out⟩
            · obtain rfl : k = ns.length := by have := HGK.out; omega
              have hkI : ¬ (ns.length : Int) < (ns.length : Int) := by omega
              have hbl : (B ++ ns.take ns.length).length = nB + ns.length := by rw [List.take_length, List.length_append, HNB.out]
              have HBL := Lib.hid hbl
              have HB2 := Lib.hid (HBN.out (B ++ ns.take ns.length) (fun x hx => List.mem_append_left _ hx) (fun d hd => by rw [List.take_length]; exact List.mem_append_right _ ((HNM.out d).2 hd)))
              clear hQo hbl
              go_wp2_with fail
              go_roundg (G0 - 1)
              case measure => have := HGI.out; omega
              case rel => exact ⟨i + 1, B ++ ns.take ns.length, ab', cb', by have := HGI.out; omega, by go_num, by rw [HBL.out], HEK.out, by rw [HBL.out]; exact HOK.out, by rw [HBL.out]; omega, HB2.out⟩
        · obtain ⟨j, hj⟩ : ∃ j, i = j + 1 := ⟨i - 1, by omega⟩
          have cy := HCJ5.out j (by omega)
          have hd := HUJ.out j (by omega)
          have hjl : j < L.length := by omega
          have q0 : 0 < i := by omega
          have q1 : decide ((0 : Int) < (i : Int)) = true := by rw [decide_eq_true_eq]; omega
          have q2 : decide (0 < i) = true := by rw [decide_eq_true_eq]; omega
          have q3 : decide (c ≤ L[j]) = false := by rw [decide_eq_false_iff_not]; omega
          have q5 : ¬ c ≤ L[j] := by omega
          have t4 : IntKind.i64.wrap ((i : Int) - 1) = (j : Int) := (IntWalk.i64_in _ (by omega)).trans (by omega)
          have hjI : (j : Int) < (L.length : Int) := by omega
          have hj0 : (0 : Int) ≤ (j : Int) := by omega
          generalize L[j] = y at *
          clear hz hj hd
          refine wp_region_quiet_lit (by kernel_rfl) (by kernel_rfl) (Shut.out ?_)
          repeat (refine hq_step (fun K hK => ?_); go_simp; refine hK _ ?_; clear hK K)
          refine hq_nil ?_
          rintro _ ⟨nq, rfl⟩
          clear q0 q1 q2 q3 q5 t4 cx5 cy
          have HX6 := Lib.hid (HC5.out nq)
          have HQ6 := Lib.hid (HQN.out nq)
          have HO6 := Lib.hid (HON.out nq)
          have hzs : (wc.drewN nq).heap.size = wc.heap.size := rfl
          have HZS := Lib.hid hzs
          have hqs2 : B5 ≤ wc.heap.size := hqs
          clear hzs
          go_wp2_with fail
          generalize wc.drewN nq = W6 at *
          go_loopg [12, 8] ns.length (fun g x y wq => ∃ (k : Nat) (ab' : Option Addr) (cb' : Nat), g + k = ns.length ∧ x = .int .i64 (k : Int) ∧ y = .slice ab' (nB + k) cb' ∧ Ext w4 wq ∧ wq.ownsRow w4.heap.size 3 1 (.slice ab' (nB + k) cb') (nB + k) ((B ++ ns.take k).map (.int .i64)) ∧ (∀ b, (Value.slice ab' (nB + k) cb').ownBlock = some b → b ≠ Q) ∧ wq.ownsRow B5 3 1 (.slice (some ⟨Q, 0, none⟩) ns.length cq) ns.length (ns.map (.int .i64)))
          case atStart => exact ⟨0, ab, cb, by omega, by go_num, rfl, HX6.out, by simpa using HO6.out, HLQ.out, HQ6.out⟩
          case round =>
            obtain ⟨k, ab', cb', hgk, rfl, rfl, hE, hO, hLQ, hQo⟩ := hrel
            have HGK := Lib.hid hgk
            have HEK := Lib.hid hE
            have HOK := Lib.hid hO
            have HLK := Lib.hid hLQ
            have HQK := Lib.hid hQo
            clear hgk hE hO hLQ
            by_cases hk : k < ns.length
            · have ck := own_cellAt hQo (i := k) (by simpa using hk)
              rw [List.getElem_map] at ck
              have hkI : (k : Int) < (ns.length : Int) := by omega
              have hk0 : (0 : Int) ≤ (k : Int) := by omega
              have hinL : ns[k] ∈ L := (HMEM.out _).2 (ReachS.next HRC.out ((HNM.out ns[k]).1 (by simp)))
              have HHX := Lib.hid (HHY.out ns[k] wr (HX34.out.trans HEK.out) hinL)
              have HTK := Lib.hid (show B ++ ns.take (k + 1) = (B ++ ns.take k) ++ [ns[k]] by rw [List.take_succ_eq_append_getElem hk, List.append_assoc])
              generalize ns[k] = n at *
              clear hQo hinL
              go_wp2_with fail
              refine HHX.out.mono ?_
              rintro e w' ⟨rfl, rfl⟩
              have HAK := Lib.hid (own_ext HOK.out (ext_al (Ext.refl wr) (Obj.cells #[.int .i64 n] 3)))
              have hws6 := HEK.out.size
              go_wp2_with (at_builtin; go_must (refine wpl_append rfl rfl Tryd.slInts w4.heap.size rfl HAK.out rfl (Row.one _ _ _) (one_int _) (by unfold maxLen; omega) (by omega) (by simp; omega) ?_))
              intro v7 w7 hown7 hg7 hb7 _
              obtain ⟨a7, c7, rfl, _⟩ := id hown7.row
              have hA7 := ext_al (Ext.refl wr) (Obj.cells #[.int .i64 n] 3)
              have HE7 := Lib.hid (show Ext w4 w7 from Below.grown (HEK.out.trans hA7) hg7 (HEK.out.trans hA7).size (fun b hb => (HOK.out.lt b hb).1))
              have HQ7 := Lib.hid (own_grown (own_ext HQK.out hA7) hg7 (.inr fun e => HLK.out Q (by rw [← e]; rfl) rfl))
              have HO7 := Lib.hid (show w7.ownsRow w4.heap.size 3 1 (.slice a7 (nB + k + 1) c7) (nB + k + 1) ((B ++ ns.take (k + 1)).map (.int .i64)) from by
                have e1 : (B ++ ns.take (k + 1)).map (Value.int .i64) = List.map (.int .i64) B ++ (List.take k (List.map (.int .i64) ns) ++ [.int .i64 n]) := by rw [HTK.out]; simp [List.map_take]
                rw [e1]
                exact hown7)
              have HL7 := Lib.hid (show ∀ b, (Value.slice a7 (nB + k + 1) c7).ownBlock = some b → b ≠ Q from fun b hb e => by
                rcases hb7 with h | h
                · rw [h] at hb; exact HLK.out b hb e
                · rw [h] at hb
                  injection hb with hb
                  have h2 := (HQK.out.lt Q rfl).2
                  first | omega | (simp at hb; omega))
              clear hown7 hg7 hb7 hA7 ck
              go_wp2_with fail
              go_roundg (gk - 1)
              case measure => have := HGK.out; omega
              case rel => exact ⟨k + 1, a7, c7, by have := HGK.out; omega, by go_num, rfl, HE7.out, HO7.out, HL7.out, HQ7.out⟩
            · obtain rfl : k = ns.length := by have := HGK.out; omega
              have hkI : ¬ (ns.length : Int) < (ns.length : Int) := by omega
              have hbl : (B ++ ns.take ns.length).length = nB + ns.length := by rw [List.take_length, List.length_append, HNB.out]
              have HBL := Lib.hid hbl
              have HB2 := Lib.hid (HBN.out (B ++ ns.take ns.length) (fun x hx => List.mem_append_left _ hx) (fun d hd => by rw [List.take_length]; exact List.mem_append_right _ ((HNM.out d).2 hd)))
              clear hQo hbl
              go_wp2_with fail
              go_roundg (G0 - 1)
              case measure => have := HGI.out; omega
              case rel => exact ⟨i + 1, B ++ ns.take ns.length, ab', cb', by have := HGI.out; omega, by go_num, by rw [HBL.out], HEK.out, by rw [HBL.out]; exact HOK.out, by rw [HBL.out]; omega, HB2.out⟩
    · obtain rfl : i = L.length := by have := HGI.out; omega
      have hiI : ¬ (L.length : Int) < (L.length : Int) := by omega
      have HIB := Lib.hid (show Ints wr (.slice ab nB cb) B from by
        have h := HOO.out.reads
        unfold Ints
        rw [HNB.out]
        exact h)
      have HHB := Lib.hid fun (x : Int) wx (hx : Ext wr wx) (hm : x ∈ B) => (show Calls Tryd.prog 18 #[.slice ab nB cb, .int .i64 x] wx fun e w' => e = .returned (.bool true) ∧ wx = w' from has_yes _ B x wx (HIB.out.ext hx) hm)
      clear m0 m1
      go_wp2_with fail
      obtain ⟨wo, rfl⟩ : ∃ wo : World, wo = wr := ⟨_, rfl⟩
      obtain ⟨G0, rfl⟩ : ∃ G0 : Nat, G0 = gk := ⟨_, rfl⟩
      go_loopg [13] L.length (fun g x wq => ∃ i : Nat, g + i = L.length ∧ x = .int .i64 (i : Int) ∧ wo = wq)
      case atStart => exact ⟨0, by omega, by go_num, rfl⟩
      case round =>
        obtain ⟨i, hgi, rfl, rfl⟩ := hrel
        have HGJ := Lib.hid hgi
        clear hgi
        by_cases hi : i < L.length
        · obtain rfl := HR1.out (by omega)
          have cx := cell_later (HX34.out.trans HEE.out) (HR2.out i hi)
          have hiI : (i : Int) < (L.length : Int) := by omega
          have hi0 : (0 : Int) ≤ (i : Int) := by omega
          have hbk := HFF.out L[i] ((HMEM.out L[i]).1 (by simp))
          by_cases he : L[i] = fi
          · have hb : (L[i] == fi) = true := by rw [beq_iff_eq]; exact he
            rw [he] at cx hb
            clear hbk he
            go_wp2_with fail
            go_roundg (gk - 1)
            case measure => have := HGJ.out; omega
            case rel => exact ⟨i + 1, by have := HGJ.out; omega, by go_num, rfl⟩
          · have hb : (L[i] == fi) = false := by rw [beq_eq_false_iff_ne]; exact he
            have hinB : L[i] ∈ B := by
              rcases hbk with h | ⟨c, hc1, hc2⟩
              · exact absurd h he
              · obtain ⟨t, ht, e⟩ := List.mem_iff_getElem.1 ((HMEM.out c).2 hc1)
                exact HBM.out t ht ht _ (by rw [e]; exact hc2)
            have HHX := Lib.hid (HHB.out L[i] _ (Ext.refl _) hinB)
            have HNE := Lib.hid he
            generalize L[i] = x at *
            clear hbk he hinB
            go_wp2_with fail
            refine HHX.out.mono ?_
            rintro e w' ⟨rfl, rfl⟩
            go_wp2_with fail
            go_roundg (gk - 1)
            case measure => have := HGJ.out; omega
            case rel => exact ⟨i + 1, by have := HGJ.out; omega, by go_num, rfl⟩
        · have hiI : ¬ (i : Int) < (L.length : Int) := by omega
          have HEF := Lib.hid (HX.out.trans (HE4.out.trans HEE.out))
          go_wp2
          go_ret
          exact ⟨rfl, HEF.out⟩

theorem reachClosed_law (cs : Array Value) (W : World) (ht : Tab W) (h0 : Cells Tryd.prog W 25 cs.toList) :
    Calls Tryd.prog 5 #[.agg cs] W fun e w' => e = .returned (.bool true) ∧ Ext W w' := by
  obtain ⟨d, pv, rfl, hpl, hd⟩ := design_of h0
  exact reachClosed_walk pv d  W ht hpl hd 

end Go.Proofs.YtkkbefhnklpfaaaDoor
