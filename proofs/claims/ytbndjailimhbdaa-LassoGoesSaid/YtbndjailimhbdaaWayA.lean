/- The contract of scc's guide.way. -/
import Derived.Test.YtbndjailimhbdaaWayE
import Derived.Test.YtbndjailimhbdaaSccChk
import Derived.Test.YtbndjailimhbdaaRowC
import Derived.Deep.LoopGhost
import Derived.Deep.Cut
import Derived.Deep.DeepCutAuto
namespace Go.Proofs.Ytbndjailimhbdaa
open Go.RowKit

theorem natV_one (l : List Nat) : ∀ u ∈ natV l, u.oneCell' = true := by
  intro u hu
  obtain ⟨x, _, rfl⟩ := List.mem_map.1 hu
  rfl
theorem natV_len (l : List Nat) : (natV l).length = l.length := by simp [natV]

/-- What way answers. -/
def WayR (n : Nat) (next : List (List Int)) (F : List Nat) (ins wan : Nat → Bool) (w : World) (e : Ending) (w' : World) : Prop :=
  ∃ (l : List Nat) (b : Nat) (a : Option Addr) (c : Nat), e = .returned (.slice a (l.length + 1) c) ∧ WayTo next F ins wan l b ∧ l.length ≤ n ∧ w'.ownsRow w.heap.size 3 1 (.slice a (l.length + 1) c) (l.length + 1) (natV (l ++ [b])) ∧ Ext w w'

set_option maxRecDepth 100000 in
set_option maxHeartbeats 16000000 in
theorem way_any (sp nx st : Value) (init : Nat) (M : Nat) (S : List Sp2) (next : List (List Int)) (sets : List Int) (w : World) (hS : Spots w sp S) (hN : Lists w nx next) (hT : Ints w st sets) (hk : GOk S.length next sets init M)
    (vf : Value) (F : List Nat) (hF : Reads w 1 vf F.length (natV F)) (hFn : F.Nodup) (hFl : ∀ x ∈ F, x < S.length) (fi fw : FuncId) (ci cw : Array Value) (ins wan : Nat → Bool)
    (hI : ∀ (i : Nat) wx, i < S.length → Ext w wx → Calls Try.prog fi (#[.int .i64 (i : Int)] ++ ci) wx fun e w' => e = .returned (.bool (ins i)) ∧ Ext wx w')
    (hW : ∀ (i : Nat) wx, i < S.length → Ext w wx → Calls Try.prog fw (#[.int .i64 (i : Int)] ++ cw) wx fun e w' => e = .returned (.bool (wan i)) ∧ Ext wx w')
    (hci : ∀ ar wx, (callFunc fi ar).run Try.prog wx = .ok (.enter fi ar) wx) (hcw : ∀ ar wx, (callFunc fw ar).run Try.prog wx = .ok (.enter fw ar) wx) (hex : ∃ l b, WayTo next F ins wan l b) :
    Calls Try.prog 10 #[.agg #[sp, .int .i64 (init : Int), nx, st, .int .i64 (M : Int)], vf, .func (.func fi) #[] ci, .func (.func fw) #[] cw] w (WayR S.length next F ins wan w) := by
  have HLI := Lib.hid hN
  have HFR := Lib.hid hF
  have HNX := Lib.hid hk.nx
  have HIN := Lib.hid hk.ins
  have h20 := hk.max
  have HFN := Lib.hid hFn
  have HFL := Lib.hid hFl
  have HI := Lib.hid hI
  have HW := Lib.hid hW
  have HEX := Lib.hid hex
  have hF0 : 0 < F.length := by
    obtain ⟨l, b, a, ha, _⟩ := hex
    exact List.length_pos_of_mem ha
  have hFm : F.length ≤ S.length := nodup_nat _ hFn hFl
  obtain ⟨asp, csp, rfl, _⟩ := hS
  obtain ⟨ax, cx, rfl⟩ : ∃ a c, nx = .slice a next.length c := by
    obtain ⟨vs, _, a, c, e, _⟩ := hN
    exact ⟨a, c, e⟩
  obtain ⟨at', ct, rfl, _⟩ := hT
  obtain ⟨af, cf, rfl, hrf⟩ := hF
  have HFRW := Lib.hid hrf
  generalize S.length = n at *
  clear hN hk hFn hFl hI hW hex hrf
  have hb := blk_new w (Obj.cells #[.slice asp n csp, .int .i64 (init : Int), .slice ax next.length cx, .slice at' sets.length ct, .int .i64 (M : Int)] 45)
  have hx := ext_al (Ext.refl w) (Obj.cells #[.slice asp n csp, .int .i64 (init : Int), .slice ax next.length cx, .slice at' sets.length ct, .int .i64 (M : Int)] 45)
  have HB := Lib.hid hb
  have HX := Lib.hid hx
  have hmm := @run_makeMap Try.prog
  clear hb hx
  go_enter Try.func10, Try.ntmps10
  go_upto_region 2 with fail
  generalize hW1 : w.alloc (Obj.cells #[.slice asp n csp, .int .i64 (init : Int), .slice ax next.length cx, .slice at' sets.length ct, .int .i64 (M : Int)] 45) = W1 at *
  have hW1s : W1.heap.size = w.heap.size + 1 := by rw [← hW1]; simp
  have HM0 := Lib.hid (MapG.new encN W1)
  have hx2 := ext_al (Ext.refl W1) (Obj.map #[] 0)
  have hfr := HFRW.out.ext (HX.out.trans hx2)
  have hs2 : (W1.alloc (Obj.map #[] 0)).heap.size = w.heap.size + 2 := by simp [hW1s]
  obtain ⟨K, hK⟩ : ∃ K, w.heap.size + 1 = K := ⟨_, rfl⟩
  rw [hW1s, hK] at HM0
  have HKW := Lib.hid (hW1s.trans hK)
  have HKK := Lib.hid hK
  have HX2 := Lib.hid hx2
  have HFR2 := Lib.hid hfr
  have HS2 := Lib.hid (show (W1.alloc (Obj.map #[] 0)).heap.size = K + 1 by omega)
  clear hW1 hW1s hx2 hfr hs2
  rw [hK]
  clear hK
  generalize W1.alloc (Obj.map #[] 0) = W2 at *
  go_wp2_with (at_builtin; go_must (refine wpl_append rfl rfl Try.slIntsW (K + 1) rfl (World.ownsRow_nil _ _ _ _) rfl HFR2.out (natV_one F) (by unfold maxLen; omega) (by omega) (by have := HS2.out; omega) ?_))
  intro v3 w3 hown3 hg3 hb3 _
  have ho3 := OffRow.of_own hown3 hF0
  obtain ⟨a3, c3, rfl, _⟩ := hown3.row
  have HO3 := Lib.hid ho3
  have HE3 := Lib.hid (show Ext W1 w3 from Below.grown HX2.out hg3 HX2.out.size (fun b hb => by cases hb))
  have HM3 := Lib.hid (HM0.out.grown hg3 (by intro e; cases e))
  clear hown3 hg3 hb3 ho3 HFR2 HM0
  go_wp2_with fail
  go_loopg [24] F.length (fun g x wr => ∃ j : Nat, g + j = F.length ∧ x = .int .i64 (j : Int) ∧ OffRow wr (K + 1) 3 (.slice a3 F.length c3) F.length (natV F) ∧ MapG encN wr K (entB (F.take j) (List.replicate j (-1))) ∧ Ext W1 wr ∧ ∀ q ∈ F.take j, wan q = false)
  case atStart => exact ⟨0, by omega, by go_num, HO3.out, HM3.out, HE3.out, by simp⟩
  case round =>
    obtain ⟨j, hgj, rfl, hO, hM, hE, hw⟩ := hrel
    have HGJ := Lib.hid hgj
    have HOO := Lib.hid hO
    have HMM := Lib.hid hM
    have HEE := Lib.hid hE
    have HWW := Lib.hid hw
    clear hgj hO hM hE hw
    by_cases hj : j < F.length
    · have hrf := HFRW.out.ext (HX.out.trans HEE.out)
      obtain ⟨bF, oF, i1, i2⟩ := row_cells (f := fun x : Nat => Value.int .i64 (x : Int)) hrf
      obtain rfl := i1 hF0
      have cj := i2 j hj
      have hcap := hrf.le
      have hcm := hrf.max
      have HJL := Lib.hid (HFL.out F[j] (by simp))
      have HNI := Lib.hid (show F[j] ∉ F.take j from fun hm => by
        obtain ⟨i, hi, e⟩ := List.mem_iff_getElem.1 hm
        rw [List.length_take] at hi
        rw [List.getElem_take] at e
        have h := HFN.out
        rw [List.Nodup, List.pairwise_iff_getElem] at h
        exact h i j (by omega) hj (by omega) e)
      have HLK := Lib.hid (entB_none (par := List.replicate j (-1)) HNI.out)
      have HER := Lib.hid (entB_root F j hj)
      have HTK := Lib.hid (show F.take (j + 1) = F.take j ++ [F[j]] from List.take_succ_eq_append_getElem hj)
      have HMEM := Lib.hid (show F[j] ∈ F by simp)
      generalize F[j] = q at *
      have hjI : (j : Int) < (F.length : Int) := by omega
      have hj0 : (0 : Int) ≤ (j : Int) := by omega
      unfold maxLen at hcm
      clear hrf i1 i2
      go_wp2_with (at_mapUpdate; go_must (refine wpl_update_g Try.keyN Try.underlying59 rfl rfl HMM.out rfl rfl HLK.out ?_))
      intro w4 hm4 hg4 hs4
      rw [← HER.out] at hm4
      have HM4 := Lib.hid hm4
      have HO4 := Lib.hid (HOO.out.grown hg4 (fun b hb => by injection hb with hb; omega))
      have HE4 := Lib.hid (show Ext W1 w4 from Below.grown HEE.out hg4 HEE.out.size (fun b hb => by injection hb with hb; have := HKW.out; omega))
      clear hm4 hg4 hs4 cj
      go_wp2_with fail
      refine (HW.out q _ HJL.out (HX.out.trans HE4.out)).mono ?_
      rintro e w5 ⟨rfl, hE5⟩
      have HM5 := Lib.hid (HM4.out.ext hE5)
      have HO5 := Lib.hid (HO4.out.ext hE5)
      have HE5 := Lib.hid (HE4.out.trans hE5)
      clear hE5
      by_cases hq : wan q = true
      · rw [hq]
        have hx6 := ext_al (Ext.refl w5) (Obj.cells #[.int .i64 (q : Int)] 3)
        have HO6 := Lib.hid (World.ownsRow_lit w5 #[.int .i64 (q : Int)] 1 (base := w.heap.size) (e := 3) (size := 1) (by have := (HX.out.trans HE5.out).size; exact this) (by unfold maxLen; omega) rfl)
        have HX6 := Lib.hid ((HX.out.trans HE5.out).trans hx6)
        clear hx6
        go_wp2
        go_ret
        exact ⟨[], q, _, _, rfl, ⟨q, HMEM.out, .nil _, hq, by simp⟩, by simp, by simpa [natV] using HO6.out, HX6.out⟩
      · have hq2 : wan q = false := by simpa using hq
        rw [hq2]
        have HWQ := Lib.hid (show ∀ x ∈ F.take (j + 1), wan x = false from fun x hx => by
          rw [HTK.out] at hx
          rcases List.mem_append.1 hx with hx | hx
          · exact HWW.out x hx
          · simp at hx; subst hx; exact hq2)
        clear hq hq2
        go_wp2_with fail
        go_roundg (gk - 1)
        case measure => have := HGJ.out; omega
        case rel => exact ⟨j + 1, by have := HGJ.out; omega, by go_num, HO5.out, HM5.out, HE5.out, HWQ.out⟩
    · obtain rfl : j = F.length := by have := HGJ.out; omega
      have hjI : ¬ (F.length : Int) < (F.length : Int) := by omega
      have HB0 := Lib.hid (BInv.start (next := next) (ins := ins) HFN.out (by have := HWW.out; rw [List.take_length] at this; exact this))
      have HM6 := Lib.hid (show MapG encN wr K (entB F (List.replicate F.length (-1))) from by have := HMM.out; rw [List.take_length] at this; exact this)
      clear HWW HMM HO3 HM3 HE3
      go_wp2_with fail
      go_loopg [10] (n + 1) (fun g x wq => ∃ (i : Nat) (Q : List Nat) (par : List Int), g + i = n + 1 ∧ OffRow wq (K + 1) 3 x (Q.length - i) (natV (Q.drop i)) ∧ MapG encN wq K (entB Q par) ∧ Ext W1 wq ∧ BInv next ins wan F Q par i 0 ∧ (∀ q ∈ Q, q < n))
      case atStart => exact ⟨0, F, _, by omega, by simpa using HOO.out, HM6.out, HEE.out, HB0.out, HFL.out⟩
      case round =>
        obtain ⟨i, Q, par, hgi, hO, hM, hE, hB, hQn⟩ := hrel
        have HGI := Lib.hid hgi
        have HOI := Lib.hid hO
        have HMI := Lib.hid hM
        have HEI := Lib.hid hE
        have HBI := Lib.hid hB
        have HQN := Lib.hid hQn
        have hQl : Q.length ≤ n := nodup_nat n hB.nd hQn
        have hil := hB.il
        clear hgi hM hE hB hQn HM6 HB0 HOO HEE
        obtain ⟨gq, oq, cq, rfl, hgK, hcq, hcm, hgl⟩ := hO.form
        by_cases hi : i < Q.length
        · have hqi := List.getElem?_eq_getElem hi
          have hdr : Q.drop i = Q[i] :: Q.drop (i + 1) := List.drop_eq_getElem_cons hi
          obtain ⟨q, hq⟩ : ∃ q, Q[i] = q := ⟨_, rfl⟩
          rw [hq] at hqi hdr
          have hqn := HQN.out q (List.mem_of_getElem? hqi)
          obtain ⟨l, hl⟩ : ∃ l, next[q]? = some l := ⟨_, List.getElem?_eq_getElem (by have := HNX.out; omega)⟩
          have hO2 := hO
          rw [hdr] at hO2
          obtain ⟨m, hm⟩ : ∃ m, Q.length - i = m + 1 := ⟨Q.length - i - 1, by omega⟩
          rw [hm] at hO2 hcq ⊢
          have c0 := hO2.cell (j := 0) (u := .int .i64 (q : Int)) (by simp [natV])
          rw [Nat.add_zero] at c0
          have HRT := Lib.hid (show OffRow wr (K + 1) 3 (.slice (if cq = 1 then some ⟨gq, oq, none⟩ else some ⟨gq, oq + 1, none⟩) m (cq - 1)) m (natV (Q.drop (i + 1))) from OffRow.rest (by simpa [natV] using hO2))
          have hbt := blk_ext HB.out HEI.out
          have g2 := blk_cell hbt (i := 2) rfl
          obtain ⟨-, hcl, hclm, bL, oL, l1, l2⟩ := HLI.out.cells
          obtain rfl := l1 (by have := HNX.out; omega)
          have hqN : q < next.length := by have := HNX.out; omega
          obtain ⟨al, cl, cL, hil2⟩ := l2 q hqN
          replace cL := (World.cell?_of_block ((HX.out.trans HEI.out).block bL (World.block_lt_of_cell? _ _ cL))).trans cL
          have hlge : next[q]'hqN = l := by
            rw [List.getElem?_eq_getElem hqN] at hl
            exact Option.some.inj hl
          rw [hlge] at cL hil2
          have HIL := Lib.hid hil2
          have HLQ := Lib.hid hl
          have HQI := Lib.hid hqi
          have HMQ := Lib.hid hm
          have HLN := Lib.hid (show ∀ x ∈ l, 0 ≤ x ∧ x < (n : Int) from fun x hx => HIN.out l (List.mem_of_getElem? hl) x hx)
          have hqI : (q : Int) < (next.length : Int) := by omega
          have hq0 : (0 : Int) ≤ (q : Int) := by omega
          have hm0 : (0 : Int) < ((m : Int) + 1) := by omega
          have hll : l.length ≤ 9223372036854775807 := by
            obtain ⟨_, _, e, hr⟩ := hil2
            simp only [Value.slice.injEq] at e
            obtain ⟨-, -, rfl⟩ := e
            have h1 := hr.le
            have h2 := hr.max
            unfold maxLen at h2
            omega
          unfold maxLen at hcm hclm
          clear hqi hdr hq hl hO hO2 hm hbt l2 hlge hil2
          go_upto_region 12 with fail
          go_cut [10] (fun s10 wx => wx = wr ∧ OffRow wr (K + 1) 3 s10 m (natV (Q.drop (i + 1))))
          case first =>
            by_cases hc1 : cq = 1
            · have hm1 : m = 0 := by omega
              subst hc1
              subst hm1
              go_wp2_with fail
              go_meet
              exact ⟨rfl, by simpa using HRT.out⟩
            · have hc2 : ¬ cq - 1 = 0 := by omega
              go_wp2_with fail
              go_meet
              exact ⟨rfl, by have h := HRT.out; rw [if_neg hc1] at h; exact h⟩
          case rest =>
          obtain ⟨rfl, hO2⟩ := hcut
          have HO2 := Lib.hid hO2
          clear hO2 HRT c0 HOI
          go_wp2_with fail
          obtain ⟨wo, rfl⟩ : ∃ wo : World, wo = wr := ⟨_, rfl⟩
          obtain ⟨G0, rfl⟩ : ∃ G0 : Nat, G0 = gk := ⟨_, rfl⟩
          go_loopg [51, 10] l.length (fun g x y wq => ∃ (c : Nat) (Q' : List Nat) (par' : List Int), g + c = l.length ∧ x = .int .i64 (c : Int) ∧ OffRow wq (K + 1) 3 y (Q'.length - (i + 1)) (natV (Q'.drop (i + 1))) ∧ MapG encN wq K (entB Q' par') ∧ Ext W1 wq ∧ BInv next ins wan F Q' par' i c ∧ (∀ q ∈ Q', q < n) ∧ Q'[i]? = some q)
          case atStart => exact ⟨0, Q, par, by omega, by go_num, by rw [show Q.length - (i + 1) = m by have := HMQ.out; omega]; exact HO2.out, HMI.out, HEI.out, HBI.out, HQN.out, HQI.out⟩
          case round =>
            clear HMI HEI HBI HQN HQI HMQ HO2 hQl hil hi hcq hm0 cL g2
            obtain ⟨c, Q', par', hgc, rfl, hO, hM, hE, hB, hQn, hqi⟩ := hrel
            have HGC := Lib.hid hgc
            have HOI := Lib.hid hO
            have HMI := Lib.hid hM
            have HEI := Lib.hid hE
            have HBI := Lib.hid hB
            have HQN := Lib.hid hQn
            have HQI := Lib.hid hqi
            have hQl : Q'.length ≤ n := nodup_nat n hB.nd hQn
            have hiQ := (List.getElem?_eq_some_iff.1 hqi).1
            by_cases hc : c < l.length
            · have hil3 := HIL.out.ext (HX.out.trans hE)
              obtain ⟨_, _, e1, hr⟩ := id hil3
              simp only [Value.slice.injEq] at e1
              obtain ⟨rfl, -, rfl⟩ := e1
              obtain ⟨bI, oI, i1, i2⟩ := ints_cells hr
              obtain rfl := i1 (by omega)
              have ci := i2 c hc
              have hlc := List.getElem?_eq_getElem hc
              have hkb := HLN.out l[c] (by simp)
              obtain ⟨k, hk⟩ : ∃ k : Nat, l[c] = (k : Int) := ⟨l[c].toNat, by omega⟩
              rw [hk] at ci hlc hkb
              have hkn : k < n := by omega
              have HLC := Lib.hid hlc
              have hcI : (c : Int) < (l.length : Int) := by omega
              have hc0 : (0 : Int) ≤ (c : Int) := by omega
              obtain ⟨gy, oy, cy, rfl, hgy, hcy, hcym, hgyl⟩ := hO.form
              clear hgc hM hE hB hQn hqi hil3 hr i1 i2 hlc hkb hk hO
              by_cases hkQ : k ∈ Q'
              · obtain ⟨jk, hjk, ejk⟩ := List.mem_iff_getElem.1 hkQ
                obtain ⟨pk', hpk⟩ : ∃ p, par'[jk]? = some p := ⟨_, List.getElem?_eq_getElem (by rw [HBI.out.pl]; exact hjk)⟩
                have HLK := Lib.hid (entB_at HBI.out.nd (show Q'[jk]? = some k by rw [List.getElem?_eq_getElem hjk, ejk]) hpk)
                have HSK := Lib.hid (HBI.out.skip HQI.out HLQ.out HLC.out (fun _ => hkQ))
                clear hkQ hjk ejk hpk
                go_wp2_with (refine wpl_lookup_g Try.keyN Try.underlying59 rfl rfl HMI.out rfl rfl HLK.out ?_)
                go_roundg (gk - 1)
                case measure => have := HGC.out; omega
                case rel => exact ⟨c + 1, Q', par', by have := HGC.out; omega, by go_num, HOI.out, HMI.out, HEI.out, HSK.out, HQN.out, HQI.out⟩
              · have HLK := Lib.hid (entB_none (par := par') hkQ)
                have HKN := Lib.hid hkQ
                have HQK := Lib.hid (show ∀ x ∈ Q' ++ [k], x < n from fun x hx => by
                  rcases List.mem_append.1 hx with hx | hx
                  · exact HQN.out x hx
                  · simp at hx; subst hx; exact hkn)
                have HQ2 := Lib.hid (show (Q' ++ [k])[i]? = some q by rw [List.getElem?_append_left hiQ]; exact HQI.out)
                have HDR := Lib.hid (show natV ((Q' ++ [k]).drop (i + 1)) = natV (Q'.drop (i + 1)) ++ [.int .i64 (k : Int)] by
                  rw [List.drop_append_of_le_length (by omega)]
                  simp [natV])
                have HEN := Lib.hid (entB_snoc HBI.out.pl k (q : Int))
                clear hkQ
                go_wp2_with (refine wpl_lookup_gn Try.keyN Try.underlying59 rfl rfl HMI.out rfl rfl (Try.zeroN _) HLK.out ?_)
                refine (HI.out k _ hkn (HX.out.trans HEI.out)).mono ?_
                rintro e w5 ⟨rfl, hE5⟩
                have HM5 := Lib.hid (HMI.out.ext hE5)
                have HO5 := Lib.hid (HOI.out.ext hE5)
                have HE5 := Lib.hid (HEI.out.trans hE5)
                clear hE5 ci HMI HOI
                by_cases hik : ins k = true
                · rw [hik]
                  have HIK := Lib.hid hik
                  clear hik
                  go_wp2_with (at_mapUpdate; go_must (refine wpl_update_g Try.keyN Try.underlying59 rfl rfl HM5.out rfl rfl HLK.out ?_))
                  intro w6 hm6 hg6 hs6
                  rw [← HEN.out] at hm6
                  have ho6 := HO5.out.grown hg6 (fun b hb => by injection hb with hb; omega)
                  have HE6 := Lib.hid (show Ext W1 w6 from Below.grown HE5.out hg6 HE5.out.size (fun b hb => by injection hb with hb; have := HKW.out; omega))
                  have hx6 := ext_al (Ext.refl w6) (Obj.cells #[.int .i64 (k : Int)] 3)
                  have c6 := blk_cell (blk_new w6 (Obj.cells #[.int .i64 (k : Int)] 3)) (i := 0) rfl
                  have HM6 := Lib.hid (hm6.ext hx6)
                  have HO6 := Lib.hid (ho6.ext hx6)
                  have hK6 : K + 1 ≤ w6.heap.size := by
                    have h1 := hm6.lt
                    omega
                  clear hm6 hg6 hs6 ho6 HM5 HO5
                  go_wp2_with (at_builtin; go_must (refine wpl_append_off rfl rfl Try.slIntsW (K + 1) rfl HO6.out rfl c6 rfl (by unfold maxLen; omega) (by omega) (by simp; omega) ?_))
                  intro v7 w7 g7 ho7 hg7 hgr7
                  rw [← HDR.out] at ho7
                  have HO7 := Lib.hid (show OffRow w7 (K + 1) 3 v7 ((Q' ++ [k]).length - (i + 1)) (natV ((Q' ++ [k]).drop (i + 1))) by
                    rw [show (Q' ++ [k]).length - (i + 1) = Q'.length - (i + 1) + 1 by simp; omega]
                    exact ho7)
                  have HM7 := Lib.hid (HM6.out.grown hgr7 (fun e => by injection e with e; omega))
                  have HE7 := Lib.hid (show Ext W1 w7 from Below.grown (HE6.out.trans hx6) hgr7 (HE6.out.trans hx6).size (fun b hb => by injection hb with hb; have := HKW.out; omega))
                  clear ho7 hg7 hgr7 hx6 c6 hK6 HM6 HO6 HE6
                  go_wp2_with fail
                  refine (HW.out k _ hkn (HX.out.trans HE7.out)).mono ?_
                  rintro e w8 ⟨rfl, hE8⟩
                  have HM8 := Lib.hid (HM7.out.ext hE8)
                  have HO8 := Lib.hid (HO7.out.ext hE8)
                  have HE8 := Lib.hid (HE7.out.trans hE8)
                  clear hE8 HM7 HO7 HE7
                  by_cases hwk : wan k = true
                  · rw [hwk]
                    have HWK := Lib.hid hwk
                    clear hwk
                    go_wp2_with fail
                    have HDI := Lib.hid (show ∀ (j x : Nat), j ≤ Q'.length → (Q' ++ [k])[j]? = some x → ((j < F.length ∧ (par' ++ [(q : Int)])[j]? = some (-1) ∧ x ∈ F) ∨ ∃ p y, p < j ∧ (Q' ++ [k])[p]? = some y ∧ (par' ++ [(q : Int)])[j]? = some (y : Int) ∧ Edge next y x ∧ ins x = true) from fun j x hj hx => by
                      have hfl := HBI.out.fl
                      have hpl := HBI.out.pl
                      by_cases hjF : j < F.length
                      · refine .inl ⟨hjF, by rw [List.getElem?_append_left (by omega)]; exact HBI.out.root j hjF, ?_⟩
                        rw [List.getElem?_append_left (by omega)] at hx
                        rw [← HBI.out.pre]
                        exact List.mem_of_getElem? (by rw [List.getElem?_take, if_pos hjF]; exact hx)
                      · right
                        by_cases hjQ : j < Q'.length
                        · obtain ⟨p, y, x', a1, a2, a3, a4, a5, a6⟩ := HBI.out.tree j (by omega) hjQ
                          rw [List.getElem?_append_left hjQ] at hx
                          obtain rfl := Option.some.inj (a3.symm.trans hx)
                          exact ⟨p, y, a1, by rw [List.getElem?_append_left (by omega)]; exact a2, by rw [List.getElem?_append_left (by omega)]; exact a4, a5, a6⟩
                        · have e : j = Q'.length := by omega
                          subst e
                          rw [List.getElem?_append_right (Nat.le_refl _), Nat.sub_self] at hx
                          simp at hx
                          subst hx
                          exact ⟨i, q, hiQ, HQ2.out, by rw [← hpl]; simp, ⟨l, HLQ.out, List.mem_of_getElem? HLC.out⟩, HIK.out⟩)
                    have HND := Lib.hid (show (Q' ++ [k]).Nodup from by
                      rw [List.nodup_append]
                      refine ⟨HBI.out.nd, by simp, ?_⟩
                      intro a ha b hb e
                      simp at hb
                      subst hb; subst e
                      exact HKN.out ha)
                    have hw8 := (HX.out.trans HE8.out).size
                    have HW8 := Lib.hid hw8
                    clear hw8 HO8
                    go_loopg [15, 18] (Q'.length + 1) (fun g x y wq => ∃ (l4 : List Nat) (al4 : Option Addr) (cl4 : Nat), y = .slice al4 l4.length cl4 ∧ wq.ownsRow w.heap.size 3 1 (.slice al4 l4.length cl4) l4.length (natV l4) ∧ MapG encN wq K (entB (Q' ++ [k]) (par' ++ [(q : Int)])) ∧ Ext W1 wq ∧ l4.length + g ≤ Q'.length + 1 ∧
                      ((∃ (j xk : Nat), g = j + 1 ∧ j ≤ Q'.length ∧ x = .int .i64 (xk : Int) ∧ (Q' ++ [k])[j]? = some xk ∧ ((l4 = [] ∧ wan xk = true) ∨ Back next ins wan F xk l4)) ∨ (g = 0 ∧ x = .int .i64 (-1) ∧ ∃ r b, l4 = r ++ [b] ∧ WayTo next F ins wan r b)))
                    case atStart => exact ⟨[], none, 0, rfl, World.ownsRow_nil _ _ _ _, HM8.out, HE8.out, by simp, .inl ⟨Q'.length, k, rfl, Nat.le_refl _, rfl, by simp, .inl ⟨rfl, HWK.out⟩⟩⟩
                    case round =>
                      obtain ⟨l4, al4, cl4, rfl, hO, hM, hE, hg4, hcase⟩ := hrel
                      have HO4 := Lib.hid hO
                      have HM4 := Lib.hid hM
                      have HE4 := Lib.hid hE
                      rcases hcase with ⟨j, xk, hgj, hjQ, rfl, hxk, hst⟩ | ⟨hg0, rfl, r, b, hrb, hwt⟩
                      · have HGJ := Lib.hid hgj
                        have HST := Lib.hid hst
                        have HDJ := Lib.hid (HDI.out j xk hjQ hxk)
                        have HXK := Lib.hid hxk
                        have h4l : l4.length + j ≤ Q'.length := by omega
                        have hx0 : (0 : Int) ≤ (xk : Int) := by omega
                        have hx5 := ext_al (Ext.refl wr) (Obj.cells #[.int .i64 (xk : Int)] 3)
                        have HX5 := Lib.hid hx5
                        have HN5 := Lib.hid (World.ownsRow_lit wr #[.int .i64 (xk : Int)] 1 (base := w.heap.size) (e := 3) (size := 1) (by have := (HX.out.trans hE).size; exact this) (by unfold maxLen; omega) rfl)
                        obtain ⟨_, _, e4, hr4⟩ := id hO.row
                        simp only [Value.slice.injEq] at e4
                        obtain ⟨rfl, -, rfl⟩ := e4
                        have HR5 := Lib.hid (hr4.ext hx5)
                        have hwsz := (HX.out.trans hE).size
                        clear hgj hst hxk hO hM hE hx5 hr4
                        go_wp2_with (at_builtin; go_must (refine wpl_append rfl rfl Try.slIntsW w.heap.size rfl HN5.out rfl HR5.out (natV_one l4) (by unfold maxLen; omega) (by omega) (by simp; omega) ?_))
                        intro v6 w6 hown6 hg6 hb6 _
                        obtain ⟨a6, c6, rfl, _⟩ := id hown6.row
                        have HM6 := Lib.hid ((HM4.out.ext HX5.out).grown hg6 (by intro e; simp [Value.ownBlock] at e; have := HM4.out.lt; omega))
                        have HE6 := Lib.hid (show Ext W1 w6 from Below.grown (HE4.out.trans HX5.out) hg6 (HE4.out.trans HX5.out).size (fun b hb => by simp [Value.ownBlock] at hb; subst hb; exact HE4.out.size))
                        have HO6 := Lib.hid (show w6.ownsRow w.heap.size 3 1 (.slice a6 (1 + l4.length) c6) (1 + l4.length) (natV (xk :: l4)) from by
                          have e : natV (xk :: l4) = [.int .i64 (xk : Int)] ++ natV l4 := rfl
                          rw [e]
                          exact hown6)
                        clear hown6 hg6 hb6
                        rcases HDJ.out with ⟨hjF, hpj, hxF⟩ | ⟨p, y, hpj', hQp, hpy, hed, hix⟩
                        · have HLJ := Lib.hid (entB_at HND.out HXK.out hpj)
                          have HDN := Lib.hid (show ∃ r b, xk :: l4 = r ++ [b] ∧ WayTo next F ins wan r b from by
                            rcases HST.out with ⟨rfl, hw⟩ | hb
                            · exact ⟨[], xk, rfl, xk, hxF, .nil _, hw, by simp⟩
                            · exact hb.done hxF)
                          clear hpj hxF hjF HDJ
                          go_wp2_with (refine wpl_lookup_g Try.keyN Try.underlying59 rfl rfl HM6.out rfl rfl HLJ.out ?_)
                          go_roundg 0
                          case measure => have := HGJ.out; omega
                          case rel => exact ⟨xk :: l4, a6, c6, by rw [List.length_cons, Nat.add_comm], by rw [List.length_cons, Nat.add_comm]; exact HO6.out, HM6.out, HE6.out, by simp; omega, .inr ⟨rfl, rfl, HDN.out⟩⟩
                        · have HLJ := Lib.hid (entB_at HND.out HXK.out hpy)
                          have HBK := Lib.hid (show Back next ins wan F y (xk :: l4) from by
                            rcases HST.out with ⟨rfl, hw⟩ | hb
                            · exact Back.first hed hix hw
                            · exact hb.more hed hix)
                          have HQP := Lib.hid hQp
                          clear hpy hed hix hQp HDJ
                          go_wp2_with (refine wpl_lookup_g Try.keyN Try.underlying59 rfl rfl HM6.out rfl rfl HLJ.out ?_)
                          go_roundg (p + 1)
                          case measure => have := HGJ.out; omega
                          case rel => exact ⟨xk :: l4, a6, c6, by rw [List.length_cons, Nat.add_comm], by rw [List.length_cons, Nat.add_comm]; exact HO6.out, HM6.out, HE6.out, by simp; omega, .inl ⟨p, y, rfl, by omega, rfl, HQP.out, .inr HBK.out⟩⟩
                      · have HRB := Lib.hid hrb
                        have HWT := Lib.hid hwt
                        have HEF := Lib.hid (HX.out.trans hE)
                        have hl4 : l4.length = r.length + 1 := by rw [hrb]; simp
                        have HRN := Lib.hid (show r.length ≤ n by omega)
                        rw [hl4] at HO4 ⊢
                        clear hO hM hE hrb hwt hl4
                        go_wp2
                        go_ret
                        exact ⟨r, b, _, _, rfl, HWT.out, HRN.out, by rw [← HRB.out]; exact HO4.out, HEF.out⟩
                  · have hwk2 : wan k = false := by simpa using hwk
                    rw [hwk2]
                    have HPK := Lib.hid (HBI.out.put HQI.out HLQ.out HLC.out HKN.out HIK.out hwk2)
                    clear hwk hwk2
                    go_wp2_with fail
                    go_roundg (gk - 1)
                    case measure => have := HGC.out; omega
                    case rel => exact ⟨c + 1, Q' ++ [k], par' ++ [(q : Int)], by have := HGC.out; omega, by go_num, HO8.out, HM8.out, HE8.out, HPK.out, HQK.out, HQ2.out⟩
                · have hik2 : ins k = false := by simpa using hik
                  rw [hik2]
                  have HSK := Lib.hid (HBI.out.skip HQI.out HLQ.out HLC.out (fun h => absurd h hik))
                  clear hik hik2
                  go_wp2_with fail
                  go_roundg (gk - 1)
                  case measure => have := HGC.out; omega
                  case rel => exact ⟨c + 1, Q', par', by have := HGC.out; omega, by go_num, HO5.out, HM5.out, HE5.out, HSK.out, HQN.out, HQI.out⟩
            · have hcl : l.length ≤ c := by omega
              have HNX2 := Lib.hid (hB.next_ hqi HLQ.out hcl)
              have hcI : ¬ (c : Int) < (l.length : Int) := by omega
              have HOF := Lib.hid hO
              clear hgc hM hE hB hQn hqi hO
              go_wp2_with fail
              go_roundg (G0 - 1)
              case measure => have := HGI.out; omega
              case rel => exact ⟨i + 1, Q', par', by have := HGI.out; omega, HOF.out, HMI.out, HEI.out, HNX2.out, HQN.out⟩
        · obtain rfl : i = Q.length := by omega
          obtain ⟨l, b, hwt⟩ := HEX.out
          exact absurd hwt HBI.out.none_

end Go.Proofs.Ytbndjailimhbdaa
