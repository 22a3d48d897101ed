/- The contract of scc.fair. -/
import Derived.Test.YtbndjailimhbdaaFairP
import Derived.Test.YtbndjailimhbdaaParts
import Derived.BigQuiet
namespace Go.Proofs.Ytbndjailimhbdaa
open Go.RowKit

def falses (n : Nat) : Obj := .cells (madeCells #[Value.bool false] (n * 1)) 4 (0, 0)
theorem made_falses (n : Nat) : (madeCells #[Value.bool false] (n * 1)).toList = (lsB n fun _ => false).map .bool := by
  rw [Nat.mul_one, made_false, lsB_false]

/-- Behind the two makes, in whatever order they came. -/
theorem fair_made (w : World) (n : Nat) (hn : n ≤ 20000) :
    ∀ o1 o2 : Obj, (o1 = falses n ∧ o2 = zeros n → ((w.alloc o1).alloc o2).drew.ownsRow w.heap.size 4 1 (.slice (some ⟨w.heap.size, 0, none⟩) n n) n ((lsB n fun _ => false).map .bool) ∧ ((w.alloc o1).alloc o2).drew.ownsRow w.heap.size 3 1 (.slice (some ⟨w.heap.size + 1, 0, none⟩) n n) n ((lst n fun _ => 0).map (.int .i64)))
      ∧ (o1 = zeros n ∧ o2 = falses n → ((w.alloc o1).alloc o2).drew.ownsRow w.heap.size 4 1 (.slice (some ⟨w.heap.size + 1, 0, none⟩) n n) n ((lsB n fun _ => false).map .bool) ∧ ((w.alloc o1).alloc o2).drew.ownsRow w.heap.size 3 1 (.slice (some ⟨w.heap.size, 0, none⟩) n n) n ((lst n fun _ => 0).map (.int .i64))) := by
  intro o1 o2
  have hmax : n ≤ maxLen := by unfold maxLen; omega
  have hs1 := size_madeCells #[Value.bool false] (n * 1)
  have hs2 := size_madeCells #[Value.int .i64 0] (n * 1)
  have hd : ∀ x : World, Ext x x.drew := fun x => Below.drew (Ext.refl _)
  rw [← made_falses, ← made_zero]
  constructor
  · rintro ⟨rfl, rfl⟩
    refine ⟨own_ext ((World.ownsRow_lit (base := w.heap.size) (e := 4) w _ n (Nat.le_refl _) hmax hs1).alloc _) (hd _), ?_⟩
    have := World.ownsRow_lit (base := w.heap.size) (e := 3) (w.alloc (falses n)) _ n (by simp) hmax hs2
    rw [show (w.alloc (falses n)).heap.size = w.heap.size + 1 by simp] at this
    exact own_ext this (hd _)
  · rintro ⟨rfl, rfl⟩
    refine ⟨?_, own_ext ((World.ownsRow_lit (base := w.heap.size) (e := 3) w _ n (Nat.le_refl _) hmax hs2).alloc _) (hd _)⟩
    have := World.ownsRow_lit (base := w.heap.size) (e := 4) (w.alloc (zeros n)) _ n (by simp) hmax hs1
    rw [show (w.alloc (zeros n)).heap.size = w.heap.size + 1 by simp] at this
    exact own_ext this (hd _)

theorem hd_at {α : Type} {f : α → Value} {w : World} {base : Nat} {e : TypeId} {D n cap : Nat} {l : List α} {i : Nat} {x : α} (h : w.ownsRow base e 1 (.slice (some ⟨D, 0, none⟩) n cap) n (l.map f)) (hi : l[i]? = some x) : w.cell? ⟨D, i, none⟩ = some (f x) := by
  obtain ⟨hl, e⟩ := List.getElem?_eq_some_iff.1 hi
  refine (own_cellAt h (i := i) (by simpa using hl)).trans ?_
  rw [List.getElem_map, e]

set_option maxRecDepth 100000 in
set_option maxHeartbeats 8000000 in
theorem fair_any (sp nx st : Value) (init : Nat) (M : Nat) (S : List Sp2) (next : List (List Int)) (sets : List Int) (w : World) (hS : Spots w sp S) (hN : Lists w nx next) (hT : Ints w st sets) (hk : GOk S.length next sets init M)
    (vp : Value) (pn : Nat → Nat) (hP : Ints w vp (lst S.length pn)) (hpn : ∀ a, a < S.length → pn a < S.length) :
    Calls Try.prog 17 #[.agg #[sp, .int .i64 (init : Int), nx, st, .int .i64 (M : Int)], vp] w fun e w' => ∃ v, e = .returned v ∧ w'.ownsRow w.heap.size 4 1 v S.length ((lsB S.length (fairB pn next (bitsN sets) M S.length)).map .bool) ∧ Ext w w' := by
  have HSL := Lib.hid hk.st
  have HB0 := Lib.hid hk.bits
  have hm6 := hk.m6
  have HI := Lib.hid hk.ins
  have HN := Lib.hid hk.nx
  have h20 := hk.max
  obtain ⟨asp, csp, rfl, _⟩ := hS
  obtain ⟨ax, cx, rfl⟩ : ∃ a c, nx = .slice a next.length c := by
    obtain ⟨vs, he, a, c, rfl, _⟩ := hN
    exact ⟨a, c, rfl⟩
  obtain ⟨at', ct, rfl, hrt⟩ := hT
  obtain ⟨ap, cp, rfl, hrp⟩ := hP
  rw [lst_len] at hrp
  obtain ⟨bt, ot, ht1, ht2⟩ := ints_cells hrt
  obtain ⟨bp, op, hp1, hp2⟩ := ints_cells (show Row w 1 ap (lst S.length pn).length cp ((lst S.length pn).map (.int .i64)) by rw [lst_len]; exact hrp)
  rw [lst_len] at hp1
  have HPC := Lib.hid (show ∀ a, a < S.length → w.cell? ⟨bp, op + a, none⟩ = some (.int .i64 (pn a : Int)) from fun a ha => by
    rw [hp2 a (by rw [lst_len]; exact ha)]
    have e := lst_get S.length pn ha
    rw [List.getElem?_eq_getElem (by rw [lst_len]; exact ha)] at e
    rw [Option.some.inj e])
  have HTC := Lib.hid (show ∀ a (ha : a < sets.length), w.cell? ⟨bt, ot + a, none⟩ = some (.int .i64 (bitsN sets a : Int)) from fun a ha => by
    rw [ht2 a ha, bitsN_eq HB0.out ha])
  have HP1 := Lib.hid hp1
  have HT1 := Lib.hid ht1
  have HLN := Lib.hid hN
  have HBL := Lib.hid (bitsN_lt HB0.out)
  have HPN := Lib.hid hpn
  rw [lst_len]
  generalize S.length = n at *
  generalize bitsN sets = bs at *
  obtain ⟨PM, hPM⟩ : ∃ PM, (2 : Int) ^ M = PM := ⟨_, rfl⟩
  have hw0 : IntKind.i64.wrap ((2 : Int) ^ M) = PM := (wrap_pow hm6).trans hPM
  have hPMn : ((2 ^ M : Nat) : Int) = PM := by rw [← hPM]; push_cast; rfl
  have hp64 : 2 ^ M ≤ 2 ^ 6 := Nat.pow_le_pow_right (by omega) hm6
  have hp01 := Nat.two_pow_pos M
  have HPM := Lib.hid hPMn
  have hPM1 : 1 ≤ PM := by omega
  have hPM2 : PM ≤ 64 := by omega
  have HOU := Lib.hid (show ∀ i m, orUp pn bs i m < 9223372036854775808 from fun i m => by have := orUp_lt pn bs HBL.out i m; omega)
  have HBS := Lib.hid (show ∀ i, bs i < 9223372036854775808 from fun i => by have := HBL.out i; omega)
  obtain ⟨_, _, _, bn, on, han, hcn⟩ := hN.cells
  have HC := Lib.hid hcn
  have HAN := Lib.hid han
  obtain ⟨i0, hi1, hi2, hi3, hi4⟩ := Try.slIntsG.inf
  have hmk : ∀ wx : World, (Instr.makeSlice 23 (.int .i64 (n : Int)) (.int .i64 (n : Int))).run Try.prog wx = .ok (.slice (some ⟨wx.heap.size, 0, none⟩) n n) (wx.alloc (zeros n)) := by
    intro wx
    have h := run_make (P := Try.prog) wx 23 3 i0 (.int .i64 0) Try.slIntsG.und hi1 hi2 .i64 .i64 n n (by omega) (Int.le_refl _) (by rw [hi4]; omega) (by omega)
    rw [hi3] at h
    simpa [zeros, Value.cells] using h
  obtain ⟨i1, hj1, hj2, hj3, hj4⟩ := Try.slBoolsG.inf
  have hmb : ∀ wx : World, (Instr.makeSlice 48 (.int .i64 (n : Int)) (.int .i64 (n : Int))).run Try.prog wx = .ok (.slice (some ⟨wx.heap.size, 0, none⟩) n n) (wx.alloc (falses n)) := by
    intro wx
    have h := run_make (P := Try.prog) wx 48 4 i1 (.bool false) Try.slBoolsG.und hj1 hj2 .i64 .i64 n n (by omega) (Int.le_refl _) (by rw [hj4]; omega) (by omega)
    rw [hj3] at h
    simpa [falses, Value.cells] using h
  clear hcn han hPM hPMn hp64 hp01 HBL hN hk hrt hi1 hi2 hi3 hi4 hj1 hj2 hj3 hj4 hp1 hp2 ht1 ht2 hrp hpn HB0
  go_enter Try.func17, Try.ntmps17
  have BA := Lib.hid (blk_new w (Obj.cells #[.slice asp n csp, .int .i64 (init : Int), .slice ax next.length cx, .slice at' sets.length ct, .int .i64 (M : Int)] 28))
  have HA := Lib.hid (ext_al (Ext.refl w) (Obj.cells #[.slice asp n csp, .int .i64 (init : Int), .slice ax next.length cx, .slice at' sets.length ct, .int .i64 (M : Int)] 28))
  go_wp2_with fail
  generalize w.alloc (Obj.cells #[.slice asp n csp, .int .i64 (init : Int), .slice ax next.length cx, .slice at' sets.length ct, .int .i64 (M : Int)] 28) = W1 at *
  go_cut [6, 7] (fun s6 s7 wx => ∃ (L T : Nat), s6 = .slice (some ⟨L, 0, none⟩) n n ∧ s7 = .slice (some ⟨T, 0, none⟩) n n ∧ L ≠ T ∧ wx.ownsRow W1.heap.size 4 1 (.slice (some ⟨L, 0, none⟩) n n) n ((lsB n fun _ => false).map .bool) ∧
    wx.ownsRow W1.heap.size 3 1 (.slice (some ⟨T, 0, none⟩) n n) n ((lst n fun _ => 0).map (.int .i64)) ∧ Ext W1 wx)
  case first =>
    go_region
    · go_wp2_with fail
      go_meet
      have h := (fair_made W1 n h20 (falses n) (zeros n)).1 ⟨rfl, rfl⟩
      exact ⟨_, _, rfl, rfl, by omega, h.1, h.2, Below.drew (ext_al (ext_al (Ext.refl _) _) _)⟩
    · go_wp2_with fail
      go_meet
      have h := (fair_made W1 n h20 (zeros n) (falses n)).2 ⟨rfl, rfl⟩
      exact ⟨_, _, rfl, rfl, by omega, h.1, h.2, Below.drew (ext_al (ext_al (Ext.refl _) _) _)⟩
  case rest =>
    obtain ⟨L, T, rfl, rfl, hLT, hoL, hoT, hE⟩ := hcut
    have hW : w.heap.size ≤ W1.heap.size := HA.out.size
    have HW := Lib.hid hW
    have HOL := Lib.hid hoL
    have HOT := Lib.hid hoT
    have bA := blk_ext BA.out hE
    have cA2 := blk_cell bA (i := 2) rfl
    have HE := Lib.hid hE
    have HLT := Lib.hid hLT
    have hs1 := blk_lt BA.out
    clear hoL hoT hE bA hW hLT hmk
    go_wp2_with fail
    clear cA2
    go_loopg [24] next.length (fun m x wr => ∃ i : Nat, m + i = next.length ∧ x = .int .i64 (i : Int) ∧ wr.ownsRow W1.heap.size 4 1 (.slice (some ⟨L, 0, none⟩) n n) n ((lsB n (lpUp pn next i)).map .bool) ∧
      wr.ownsRow W1.heap.size 3 1 (.slice (some ⟨T, 0, none⟩) n n) n ((lst n (orUp pn bs i)).map (.int .i64)) ∧ Ext W1 wr)
    case atStart => exact ⟨0, by omega, by go_num, HOL.out, HOT.out, HE.out⟩
    case round =>
      obtain ⟨i, hmi, rfl, hoL, hoT, hE⟩ := hrel
      clear HOL HOT HE
      have HMI := Lib.hid hmi
      have HOL := Lib.hid hoL
      have HOT := Lib.hid hoT
      have HE := Lib.hid hE
      have bA := blk_ext BA.out hE
      have hEW := HA.out.trans hE
      by_cases hi : i < next.length
      · have hin : i < n := by have := HN.out; omega
        have hil : i < sets.length := by have := HSL.out; omega
        obtain ⟨ai, ci, hx, hx2⟩ := HC.out i hi
        have hnb : nbs next i = next[i] := by simp [nbs, List.getD, List.getElem?_eq_getElem hi]
        obtain ⟨_, _, e, hri⟩ := hx2
        simp only [Value.slice.injEq] at e
        obtain ⟨rfl, _, rfl⟩ := e
        obtain rfl := HAN.out (by omega)
        obtain rfl := HP1.out (by omega)
        obtain rfl := HT1.out (by omega)
        have hpi := HPN.out i hin
        have cx := cell_later hEW hx
        have cA3 := blk_cell bA (i := 3) rfl
        have cpi := cell_later hEW (HPC.out i hin)
        have cti := cell_later hEW (HTC.out i hil)
        have cT := hd_at hoT (lst_get n (orUp pn bs i) hpi)
        have fT := own_freeAt hoT (pn i)
        have hor := i64_or_nat (orUp pn bs i (pn i)) (bs i) (HOU.out i (pn i)) (HBS.out i)
        have hiI : (i : Int) < (next.length : Int) := by omega
        have hiI2 : (i : Int) < (n : Int) := by omega
        have hiI3 : (i : Int) < (sets.length : Int) := by omega
        have hi0 : (0 : Int) ≤ (i : Int) := by omega
        have hpI : (pn i : Int) < (n : Int) := by omega
        have hpI0 : (0 : Int) ≤ (pn i : Int) := by omega
        have hmi' : next[i].length ≤ 9223372036854775807 := by have h1 := hri.max; have h2 := hri.le; unfold maxLen at h1; omega
        have HRI := Lib.hid hri
        have HNB := Lib.hid hnb
        have HLI := Lib.hid (HI.out next[i] (by simp))
        have hLB := (hoL.lt L rfl).1
        have hTB := (hoT.lt T rfl).1
        have hq1 : ¬ T = w.heap.size := by omega
        have hq2 : ¬ w.heap.size = T := by omega
        have hLT2 : ¬ L = T := HLT.out
        clear hmi hoL hoT hE bA hEW hri hnb hx
        generalize next[i] = l at *
        go_wp2_with fail
        go_region
        have hoT2 : (wr.setCell ⟨T, pn i, none⟩ (.int .i64 ((orUp pn bs i (pn i) ||| bs i : Nat) : Int))).ownsRow W1.heap.size 3 1 (.slice (some ⟨T, 0, none⟩) n n) n ((lst n (orUp pn bs (i + 1))).map (.int .i64)) := by
          have h := own_setAt HOT.out (i := pn i) (.int .i64 ((orUp pn bs i (pn i) ||| bs i : Nat) : Int))
          rw [set_map_int, lst_upd n (orUp pn bs i) _ hpi, orUp_step] at h
          exact h
        have hoL2 := own_setCell HOL.out (p := ⟨T, pn i, none⟩) (.int .i64 ((orUp pn bs i (pn i) ||| bs i : Nat) : Int)) (fun e => hLT2 (by simpa [Value.ownBlock] using e))
        have hE2 := ext_st HE.out (p := ⟨T, pn i, none⟩) hTB (.int .i64 ((orUp pn bs i (pn i) ||| bs i : Nat) : Int))
        have hd : Ext (wr.setCell ⟨T, pn i, none⟩ (.int .i64 ((orUp pn bs i (pn i) ||| bs i : Nat) : Int))) (wr.setCell ⟨T, pn i, none⟩ (.int .i64 ((orUp pn bs i (pn i) ||| bs i : Nat) : Int))).drew := Below.drew (Ext.refl _)
        have HOT2 := Lib.hid (own_ext hoT2 hd)
        have HOL2 := Lib.hid (own_ext hoL2 hd)
        have HE2 := Lib.hid (Ext.trans hE2 hd)
        clear cx cA3 cpi cti cT fT hor HOT HOL HE hoT2 hoL2 hE2 hd
        generalize (wr.setCell ⟨T, pn i, none⟩ (.int .i64 ((orUp pn bs i (pn i) ||| bs i : Nat) : Int))).drew = W2 at *
        generalize orUp pn bs i (pn i) ||| bs i = o1 at *
        generalize orUp pn bs i (pn i) = o2 at *
        generalize bs i = o3 at *
        go_wp2_with fail
        obtain ⟨wo, rfl⟩ : ∃ wo : World, wo = wr := ⟨_, rfl⟩
        obtain ⟨G0, rfl⟩ : ∃ G0 : Nat, G0 = gk := ⟨_, rfl⟩
        go_loopg [45] l.length (fun m x wi => ∃ k : Nat, m + k = l.length ∧ x = .int .i64 (k : Int) ∧ wi.ownsRow W1.heap.size 4 1 (.slice (some ⟨L, 0, none⟩) n n) n ((lsB n (lpIn pn next i k)).map .bool) ∧
          wi.ownsRow W1.heap.size 3 1 (.slice (some ⟨T, 0, none⟩) n n) n ((lst n (orUp pn bs (i + 1))).map (.int .i64)) ∧ Ext W1 wi)
        case atStart => exact ⟨0, by omega, by go_num, by rw [lpIn_zero]; exact HOL2.out, HOT2.out, HE2.out⟩
        case round =>
          obtain ⟨k, hmk, rfl, hoL, hoT, hE⟩ := hrel
          clear HOL2 HOT2 HE2
          have HMK := Lib.hid hmk
          have HOT := Lib.hid hoT
          have HOL := Lib.hid hoL
          have HE := Lib.hid hE
          by_cases hk : k < l.length
          · obtain ⟨bi, oi, hri1, hri2⟩ := ints_cells HRI.out
            obtain rfl := hri1 (by omega)
            obtain ⟨hz0, hz1⟩ := HLI.out l[k] (by simp)
            obtain ⟨z, hz⟩ : ∃ z : Nat, l[k] = (z : Int) := ⟨l[k].toNat, by omega⟩
            have hEW := HA.out.trans hE
            have ck := cell_later hEW (hri2 k hk)
            rw [hz] at ck hz0 hz1
            have hzn : z < n := by omega
            have HLK := Lib.hid (show (nbs next i)[k]? = some (z : Int) by rw [HNB.out, List.getElem?_eq_getElem hk, hz])
            have cpz := cell_later hEW (HPC.out z hzn)
            have cpi := cell_later hEW (HPC.out i hin)
            have hzI : (z : Int) < (n : Int) := by omega
            have hkI : (k : Int) < (l.length : Int) := by omega
            have hk0 : (0 : Int) ≤ (k : Int) := by omega
            have cL := hd_at hoL (lsB_get n (lpIn pn next i k) hpi)
            have fL := own_freeAt hoL (pn i)
            clear hri1 hri2 hz hEW hmk hoL hoT hE
            by_cases hpz : pn z = pn i
            · have hzb : ((pn z : Int) == (pn i : Int)) = true := by simp [hpz]
              have HPZ := Lib.hid hpz
              clear hpz
              go_wp2_with fail
              go_quiet (fail)
              obtain ⟨q0, rfl⟩ : ∃ q0 : Nat, q0 = nq := ⟨_, rfl⟩
              have hdq : Ext wr (wr.drewN q0) := below_drewN (Ext.refl _) _
              replace cpi := cell_later hdq cpi
              replace fL : (wr.drewN q0).frozen? ⟨L, pn i, none⟩ = false := (World.frozen?_of_block (hdq.block L (World.block_lt_of_cell? _ _ cL))).trans fL
              replace cL := cell_later hdq cL
              have hoL3 := own_setAt (own_ext HOL.out hdq) (i := pn i) (.bool true)
              rw [set_map_bool, lsB_upd n (lpIn pn next i k) _ hpi, lpIn_yes pn next i k z HLK.out HPZ.out] at hoL3
              have hoT3 := own_setCell (own_ext HOT.out hdq) (p := ⟨L, pn i, none⟩) (.bool true) (fun e => hLT2 (by simpa [Value.ownBlock] using e.symm))
              have hE3 := ext_st (Ext.trans HE.out hdq) (p := ⟨L, pn i, none⟩) hLB (.bool true)
              have HOL3 := Lib.hid hoL3
              have HOT3 := Lib.hid hoT3
              have HE3 := Lib.hid hE3
              clear hoL3 hoT3 hE3 hdq HOL HOT HE
              go_wp2_with fail
              go_roundg (gk - 1)
              case measure => have := HMK.out; omega
              case rel => exact ⟨k + 1, by have := HMK.out; omega, by go_num, HOL3.out, HOT3.out, HE3.out⟩
            · have hzb : ((pn z : Int) == (pn i : Int)) = false := by rw [beq_eq_false_iff_ne]; omega
              have HPZ := Lib.hid hpz
              clear hpz
              go_wp2_with fail
              go_quiet (fail)
              obtain ⟨q0, rfl⟩ : ∃ q0 : Nat, q0 = nq := ⟨_, rfl⟩
              have hdq : Ext wr (wr.drewN q0) := below_drewN (Ext.refl _) _
              have hoL3 := own_ext HOL.out hdq
              rw [lpIn_no pn next i k z HLK.out HPZ.out] at hoL3
              have HOL3 := Lib.hid hoL3
              have HOT3 := Lib.hid (own_ext HOT.out hdq)
              have HE3 := Lib.hid (Ext.trans HE.out hdq)
              clear hoL3 hdq HOL HOT HE
              go_wp2_with fail
              go_roundg (gk - 1)
              case measure => have := HMK.out; omega
              case rel => exact ⟨k + 1, by have := HMK.out; omega, by go_num, HOL3.out, HOT3.out, HE3.out⟩
          · have hkI : ¬ (k : Int) < (l.length : Int) := by omega
            have hkl : k = (nbs next i).length := by rw [HNB.out]; omega
            rw [lpIn_done pn next i k hkl] at hoL
            have HOL := Lib.hid hoL
            clear hoL hoT hE hkl hmk
            go_wp2_with fail
            go_roundg (G0 - 1)
            case measure => have := HMI.out; omega
            case rel => exact ⟨i + 1, by have := HMI.out; omega, by go_num, HOL.out, HOT.out, HE.out⟩
      · have hiI : ¬ (i : Int) < (next.length : Int) := by omega
        have hin : i = n := by have := HN.out; omega
        subst hin
        have hmax : i ≤ maxLen := by unfold maxLen; omega
        have ho3 := World.ownsRow_lit (base := wr.heap.size) (e := 4) wr _ i (Nat.le_refl _) hmax (size_madeCells #[Value.bool false] (i * 1))
        rw [made_falses] at ho3
        have hxo : Ext wr (wr.alloc (falses i)) := ext_al (Ext.refl _) _
        have HO3 := Lib.hid (show (wr.alloc (falses i)).ownsRow wr.heap.size 4 1 (.slice (some ⟨wr.heap.size, 0, none⟩) i i) i ((lsB i fun _ => false).map .bool) from ho3)
        have HXO := Lib.hid hxo
        have hWW : W1.heap.size ≤ wr.heap.size := hE.size
        have hww : w.heap.size < wr.heap.size := by omega
        clear hmi hoL hoT hE bA hEW ho3 hxo
        go_wp2_with fail
        obtain ⟨wo, rfl⟩ : ∃ wo : World, wo = wr := ⟨_, rfl⟩
        go_loopg [70] i (fun m x wi => ∃ k : Nat, m + k = i ∧ x = .int .i64 (k : Int) ∧ wi.ownsRow wo.heap.size 4 1 (.slice (some ⟨wo.heap.size, 0, none⟩) i i) i ((lsB i fun m => if m < k then fairB pn next bs M i m else false).map .bool) ∧ Ext wo wi)
        case atStart => exact ⟨0, by omega, by go_num, by simpa using HO3.out, HXO.out⟩
        case round =>
          obtain ⟨k, hmk, rfl, hoO, hE2⟩ := hrel
          clear HO3 HXO
          have HMK := Lib.hid hmk
          have HOO := Lib.hid hoO
          have HE2 := Lib.hid hE2
          by_cases hk : k < i
          · have hEW := (HA.out.trans HE.out).trans hE2
            obtain rfl := HP1.out (by omega)
            have cpi := cell_later hEW (HPC.out k hk)
            have cL := cell_later hE2 (hd_at HOL.out (lsB_get i (lpUp pn next i) hk))
            have cT := cell_later hE2 (hd_at HOT.out (lst_get i (orUp pn bs i) hk))
            have cO := hd_at hoO (lsB_get i (fun m => if m < k then fairB pn next bs M i m else false) hk)
            have fO := own_freeAt hoO k
            have cA4 := blk_cell (blk_ext (blk_ext BA.out HE.out) hE2) (i := 4) rfl
            have hkI : (k : Int) < (i : Int) := by omega
            have hk0 : (0 : Int) ≤ (k : Int) := by omega
            have HFB := Lib.hid (show fairB pn next bs M i k = (pn k == k && lpUp pn next i k && orUp pn bs i k == 2 ^ M - 1) from rfl)
            have hcm : ((orUp pn bs i k : Int) == PM - 1) = (orUp pn bs i k == 2 ^ M - 1) := by
              rw [Bool.eq_iff_iff, beq_iff_eq, beq_iff_eq, ← HPM.out]
              have := Nat.two_pow_pos M
              omega
            have hcp : ((pn k : Int) == (k : Int)) = (pn k == k) := by
              rw [Bool.eq_iff_iff, beq_iff_eq, beq_iff_eq]
              omega
            have HST := Lib.hid fun b hb => (show (wr.setCell ⟨wo.heap.size, k, none⟩ (.bool b)).drew.ownsRow wo.heap.size 4 1 (.slice (some ⟨wo.heap.size, 0, none⟩) i i) i ((lsB i fun m => if m < k + 1 then fairB pn next bs M i m else false).map .bool) from by
              have h := own_setAt hoO (i := k) (.bool b)
              rw [set_map_bool, lsB_upd i _ _ hk, fair_upd _ k b hb] at h
              exact own_ext h (Below.drew (Ext.refl _)))
            have HES := Lib.hid fun (b : Bool) => Below.drew (ext_st hE2 (p := ⟨wo.heap.size, k, none⟩) (Nat.le_refl _) (.bool b))
            have hmaxM : (M : Int) ≤ 6 := by omega
            clear hmk hoO hE2 hEW
            generalize (if k < k then fairB pn next bs M i k else false) = bO at *
            generalize lpUp pn next i k = bL at *
            generalize (pn k == k) = bP at *
            generalize (orUp pn bs i k == 2 ^ M - 1) = bT at *
            cases bP <;> cases bL <;> cases bT
            all_goals
              go_wp2_with fail
              go_region
              go_wp2_with fail
              go_roundg (gk - 1)
              case measure => have := HMK.out; omega
              case rel => exact ⟨k + 1, by have := HMK.out; omega, by go_num, HST.out _ HFB.out.symm, HES.out _⟩
          · have hkI : ¬ (k : Int) < (i : Int) := by omega
            have hki : k = i := by omega
            have HO := Lib.hid hoO
            have HEW := Lib.hid ((HA.out.trans HE.out).trans hE2)
            clear hmk hoO hE2
            go_wp2
            go_ret
            refine ⟨_, rfl, ?_, HEW.out⟩
            have h := HO.out
            rw [hki, lsB_cut] at h
            exact own_down h (by omega)

end Go.Proofs.Ytbndjailimhbdaa
