/- Several texts in one: ShS; ShTp. No condition. -/
import Derived.Test.YtfcaomejbcjfgaaGreatDoorKx18
import Derived.Test.YtfcaomejbcjfgaaGreatDoorKx14
import Derived.Deep.RegionHeld3
import Derived.Test.YtfcaomejbcjfgaaGreatDoorKx17
namespace Go.Proofs.YtfcaomejbcjfgaaGreatDoor
open Go Go.RowKit
theorem flat_take {α : Type} (f : α → List UInt8) (l : List α) {i : Nat} (h : i < l.length) : (l.take (i + 1)).flatMap f = (l.take i).flatMap f ++ f l[i] := by
  rw [List.take_succ_eq_append_getElem h, List.flatMap_append]; simp
theorem flat_len {α : Type} {f : α → List UInt8} {K : Nat} : ∀ {l : List α}, (∀ x ∈ l, (f x).length ≤ K) → (l.flatMap f).length ≤ K * l.length
  | [], _ => by simp
  | x :: l, h => by
    have h1 := h x (by simp)
    have h2 := flat_len (f := f) (K := K) (l := l) fun y hy => h y (by simp [hy])
    simp only [List.flatMap_cons, List.length_append, List.length_cons]
    rw [Nat.mul_add]; omega
theorem flat_upto {α : Type} {f : α → List UInt8} {K M : Nat} {l : List α} (h : ∀ x ∈ l, (f x).length ≤ K) (hM : l.length ≤ M) (i : Nat) : ((l.take i).flatMap f).length ≤ K * M := by
  have h1 := flat_len (f := f) (K := K) (l := l.take i) fun x hx => h x (List.mem_of_mem_take hx)
  have h2 : (l.take i).length ≤ M := by simp; omega
  exact Nat.le_trans h1 (Nat.mul_le_mul_left K h2)
def numW (l : List Int) : List UInt8 := l.flatMap fun n => 32 :: Lib.itoa n
theorem numW_len {x y z : Int} (hx : I64 x) (hy : I64 y) (hz : I64 z) (k : Nat) : (numW ([x, y, z].take k)).length ≤ 66 := by
  refine Nat.le_trans (flat_upto (K := 22) (M := 3) ?_ (by simp) k) (by omega)
  intro n hn
  have : (Lib.itoa n).length ≤ 21 := by simp at hn; rcases hn with rfl | rfl | rfl <;> exact itoa_len ‹_›
  simp; omega
theorem varL_len {v : Vr} (h : VrFit v) : (varL v).length ≤ 80 := by
  have h1 := itoa_len h.low; have h2 := itoa_len h.high; have h3 := itoa_len h.init; have h4 := h.name
  have h5 : v.name.data.toList.length = v.name.size := Array.length_toList
  simp only [varL, List.length_append, List.length_cons, List.length_nil]; omega
theorem wordsL_len {vs : List Vr} (h : ∀ v ∈ vs, VrFit v) {l : List Op2} (hl : ∀ o ∈ l, OpFit vs.length o) (h60 : l.length ≤ 60) : (wordsL vs l).length ≤ 1381 := by
  have := opsL_len h hl
  simp only [wordsL, List.length_append, List.length_cons, List.length_nil]; omega
theorem setTx_len {vs : List Vr} (h : ∀ v ∈ vs, VrFit v) {s : Int × List Op2} (hl : ∀ o ∈ s.2, OpFit vs.length o) (h60 : s.2.length ≤ 60) : (setTx vs s).length ≤ 1393 := by
  have h1 := wordsL_len h hl h60
  have h2 := nameL_len h s.1
  simp only [setTx, List.length_append, List.length_cons, List.length_nil]; omega
theorem ruleL_len {vs : List Vr} (h : ∀ v ∈ vs, VrFit v) {r : Rr} (hr : RuleG vs.length r) : (ruleL vs r).length ≤ 9743 := by
  have h1 := wordsL_len h hr.guard.fit hr.guard.len.2
  have h2 := flat_upto (f := setTx vs) (K := 1393) (M := 6) (l := r.sets) (fun s hs => setTx_len h ((hr.sets s hs).2.2).fit ((hr.sets s hs).2.2).len.2) hr.six r.sets.length
  rw [List.take_length] at h2
  simp only [ruleL, List.length_append, List.length_cons, List.length_nil]; omega
theorem propL_len {vs : List Vr} (h : ∀ v ∈ vs, VrFit v) {p : List Op2} {b : Bool} (hp : KindG p vs.length b) : (propL vs p).length ≤ 1385 := by
  have h1 := wordsL_len h hp.fit hp.len.2
  simp only [propL, List.length_append, List.length_cons, List.length_nil]; omega
theorem FormG.len {p : Int} {l : List Op2} (h : FormG p l) : l.length ≤ 60 := by
  obtain ⟨es, he⟩ := h.ends
  exact (endsL_len he).2
theorem run_arr3 (x y z : Int) (w : World) : (Instr.index 63 (.agg #[.int .i64 x, .int .i64 y, .int .i64 z]) (.int .i64 0)).run Tryz.prog w = .ok (.int .i64 x) w ∧ (Instr.index 63 (.agg #[.int .i64 x, .int .i64 y, .int .i64 z]) (.int .i64 1)).run Tryz.prog w = .ok (.int .i64 y) w ∧ (Instr.index 63 (.agg #[.int .i64 x, .int .i64 y, .int .i64 z]) (.int .i64 2)).run Tryz.prog w = .ok (.int .i64 z) w := by
  refine ⟨?_, ?_, ?_⟩ <;> simp [Instr.index, run_underlying Tryz.underlying63, asIntOf, go_sem]
set_option maxRecDepth 100000 in
set_option maxHeartbeats 16000000 in
theorem show_any (vv rv pv fv : Value) (t : Rt) (w : World) (h : IsRt w vv rv pv fv t) (hg : Gl w) :
    Calls Tryz.prog 5 #[.agg #[vv, rv, pv, fv]] w fun e w' => ∃ c : Int, (c = 0 ↔ TaskG t) ∧ Ext w w' ∧ e = .returned (.tuple #[.string (if c = 0 then ⟨(showL t).toArray⟩ else ⟨#[]⟩), .int .i64 c]) := by
  have HBAD := Lib.hid fun (c : Int) (w' : World) (h0 : c ≠ 0) (hb : ¬ TaskG t) (hE : Ext w w') => (show ∃ d : Int, (d = 0 ↔ TaskG t) ∧ Ext w w' ∧ Ending.returned (.tuple #[.string ⟨#[]⟩, .int .i64 c]) = .returned (.tuple #[.string (if d = 0 then ⟨(showL t).toArray⟩ else ⟨#[]⟩), .int .i64 d]) from ⟨c, ⟨fun h => absurd h h0, fun h => absurd h hb⟩, hE, by rw [if_neg h0]⟩)
  have HGOOD := Lib.hid fun (s : ByteArray) (w' : World) (hs : s = ⟨(showL t).toArray⟩) (hb : TaskG t) (hE : Ext w w') => (show ∃ d : Int, (d = 0 ↔ TaskG t) ∧ Ext w w' ∧ Ending.returned (.tuple #[.string s, .int .i64 0]) = .returned (.tuple #[.string (if d = 0 then ⟨(showL t).toArray⟩ else ⟨#[]⟩), .int .i64 d]) from ⟨0, ⟨fun _ => hb, fun _ => rfl⟩, hE, by rw [if_pos rfl, hs]⟩)
  have HPC := Lib.hid fun wx (hx : Ext w wx) => pcheckR_any vv rv pv fv t wx (h.ext hx) (hg.tab.ext hx)
  have HSH := Lib.hid (show showL t = t.vars.flatMap varL ++ t.rules.flatMap (ruleL t.vars) ++ t.props.flatMap (propL t.vars) ++ checkT t.vars t.form from rfl)
  have HVF := Lib.hid fun (h : TaskG t) => h.pr.md.vars.fit
  have HV6 := Lib.hid fun (h : TaskG t) => h.pr.md.vars.six
  have HR12 := Lib.hid fun (h : TaskG t) => h.pr.md.twelve
  have HRG := Lib.hid fun (h : TaskG t) => h.pr.md.rules
  have HP6 := Lib.hid fun (h : TaskG t) => h.pr.six
  have HPG := Lib.hid fun (h : TaskG t) => h.pr.each
  have HFG := Lib.hid fun (h : TaskG t) => h.fo
  obtain ⟨h1, h2, h3, h4⟩ := h
  obtain ⟨av, cv, rfl, _, bv, ov, hav, hvc⟩ := h1.at
  obtain ⟨ar, cr, rfl, _, br, orr, har, hrc⟩ := h2.at
  obtain ⟨ap, cp, rfl, _, bp, op, hap, hpc⟩ := h3.at
  obtain ⟨af, cf, rfl⟩ := h4.val
  generalize TaskG t = TG at *
  generalize showL t = SH at *
  generalize t.vars = vs at *
  generalize t.rules = rs at *
  generalize t.props = ps at *
  generalize t.form = fm at *
  have H1 := Lib.hid h1
  have H4 := Lib.hid h4
  have HAV := Lib.hid hav
  have HVC := Lib.hid hvc
  have HAR := Lib.hid har
  have HRC := Lib.hid hrc
  have HAP := Lib.hid hap
  have HPP := Lib.hid hpc
  have HG := Lib.hid hg
  clear h1 h2 h3 h4 hav hvc har hrc hap hpc hg
  have hbx := blk_new w (Obj.cells #[.slice av vs.length cv, .slice ar rs.length cr, .slice ap ps.length cp, .slice af fm.length cf] 34)
  have HE := Lib.hid (ext_al (Ext.refl w) (Obj.cells #[.slice av vs.length cv, .slice ar rs.length cr, .slice ap ps.length cp, .slice af fm.length cf] 34))
  have HB := Lib.hid hbx
  have hz0 : (w.alloc (Obj.cells #[.slice av vs.length cv, .slice ar rs.length cr, .slice ap ps.length cp, .slice af fm.length cf] 34)).heap.size = w.heap.size + 1 := by simp
  clear hbx
  go_enter Tryz.func5, Tryz.ntmps5
  go_wp2_with fail
  generalize w.alloc (Obj.cells #[.slice av vs.length cv, .slice ar rs.length cr, .slice ap ps.length cp, .slice af fm.length cf] 34) = W0 at *
  refine (HPC.out _ HE.out).mono ?_
  rintro e w2 ⟨pc, rfl, hpc, hE2⟩
  have HC0 := Lib.hid hpc
  have HX2 := Lib.hid (HE.out.trans hE2)
  have hs2 := hE2.size
  have HM2 := Lib.hid (blk_ext HB.out hE2)
  clear hE2 HB HE HPC hpc
  by_cases hc0 : pc = 0
  case neg =>
    have hcb : (pc != 0) = true := by rw [bne_iff_ne]; exact hc0
    have HCN := Lib.hid hc0
    clear hc0
    go_wp2
    go_ret2
    exact HBAD.out pc _ HCN.out (fun h => HCN.out (HC0.out.2 h)) HX2.out
  have hT := HC0.out.1 hc0
  subst hc0
  have HT := Lib.hid hT
  have hvf := HVF.out hT
  have h6 := HV6.out hT
  have HVL := Lib.hid (flat_upto (f := varL) (K := 80) (M := 6) (fun v hv => varL_len (hvf v hv)) h6)
  have HVFF := Lib.hid hvf
  clear hT hvf HC0
  have hx1 := ext_al (Ext.refl w2) (Obj.cells #[.pointer none, .slice none 0 0] 58)
  have hbb := blk_new w2 (Obj.cells #[.pointer none, .slice none 0 0] 58)
  have HM := Lib.hid (blk_ext HM2.out hx1)
  have HX := Lib.hid (HX2.out.trans hx1)
  have m0 := blk_cell HM.out (i := 0) rfl
  go_wp2_with fail
  clear m0
  generalize w2.alloc (Obj.cells #[.pointer none, .slice none 0 0] 58) = W1 at *
  obtain ⟨b, hb⟩ : ∃ b, w2.heap.size = b := ⟨_, rfl⟩
  rw [hb] at hbb ⊢
  have HBB := Lib.hid (Bd.fresh hbb)
  have hwb : w.heap.size ≤ b := by omega
  have hwb1 : w.heap.size < b := by omega
  clear hx1 hbb hb hs2 hz0 HM2 HX2
  go_loopg [25] vs.length (fun m x wr => ∃ i : Nat, m + i = vs.length ∧ x = .int .i64 (i : Int) ∧ Kp b W1 wr ∧ Bd b ((vs.take i).flatMap varL) wr)
  case atStart => exact ⟨0, by omega, by go_num, Kp.refl _ _, by simpa using HBB.out⟩
  case round =>
    obtain ⟨i, hmi, rfl, hk, hbd⟩ := hrel
    have HMI := Lib.hid hmi
    clear hmi
    by_cases hi : i < vs.length
    · obtain rfl := HAV.out (by omega)
      obtain ⟨c0, c1, c2, c3⟩ := HVC.out i hi
      have c0 := old_cell c0 HX.out hk.below hwb
      have c1 := old_cell c1 HX.out hk.below hwb
      have c2 := old_cell c2 HX.out hk.below hwb
      have c3 := old_cell c3 HX.out hk.below hwb
      have HTK := Lib.hid (flat_take varL vs hi)
      have hL := HVL.out i
      obtain ⟨hnm, i0, i1, i2⟩ := HVFF.out vs[i] (by simp)
      generalize (vs.take i).flatMap varL = L at *
      generalize vs[i] = x at *
      obtain ⟨nm, lo, hh, ini⟩ := x
      simp only at c0 c1 c2 c3 hnm i0 i1 i2
      have HI0 := Lib.hid i0
      have HI1 := Lib.hid i1
      have HI2 := Lib.hid i2
      have hiI : (i : Int) < (vs.length : Int) := by omega
      have hi0 : (0 : Int) ≤ (i : Int) := by omega
      have hEo := ext_al (Ext.refl wr) (Obj.cells #[.string nm, .int .i64 lo, .int .i64 hh, .int .i64 ini] 43)
      have hbo := blk_new wr (Obj.cells #[.string nm, .int .i64 lo, .int .i64 hh, .int .i64 ini] 43)
      have HBD := Lib.hid (hbd.ext hEo)
      have HK := Lib.hid (hk.trans (Kp.ext hEo (Nat.le_of_lt hbd.lt)))
      have HBO := Lib.hid hbo
      have hob : b < wr.heap.size := hbd.lt
      have HPS := Lib.hid (show ((⟨#[118, 97, 114, 32]⟩ : ByteArray) ++ nm).data.toList = [118, 97, 114, 32] ++ nm.data.toList by rw [ba_app])
      have HSS := Lib.hid (show ((⟨#[118, 97, 114, 32]⟩ : ByteArray) ++ nm).size ≤ 12 by rw [ByteArray.size_append]; have e4 : (⟨#[118, 97, 114, 32]⟩ : ByteArray).size = 4 := rfl; omega)
      clear hbd hk hEo hbo i0 i1 i2
      go_wp2_with fail
      generalize ((⟨#[118, 97, 114, 32]⟩ : ByteArray) ++ nm) = pn at *
      generalize hWO : wr.alloc (Obj.cells #[.string nm, .int .i64 lo, .int .i64 hh, .int .i64 ini] 43) = wo at *
      clear hWO
      refine (wstr_any b L pn wo HBD.out (by have := HSS.out; omega)).mono ?_
      rintro e w3 ⟨rfl, hW3⟩
      have hb3 := hW3.2.same wr.heap.size _ _ _ (by omega) HBO.out (by decide)
      have d1 := blk_cell hb3 (i := 1) rfl
      have d2 := blk_cell hb3 (i := 2) rfl
      have d3 := blk_cell hb3 (i := 3) rfl
      have HK3 := Lib.hid (HK.out.trans hW3.2)
      have HB3 := Lib.hid hW3.1
      clear hW3 hb3 c0 c1 c2 c3
      have hlen2 : (L ++ pn.data.toList).length ≤ 500 := by
        have := HSS.out
        have e2 : pn.data.toList.length = pn.size := Array.length_toList
        simp only [List.length_append]; omega
      obtain ⟨L2, hL2⟩ : ∃ L2, L ++ pn.data.toList = L2 := ⟨_, rfl⟩
      rw [hL2] at HB3 hlen2
      have HL2 := Lib.hid hL2
      clear hL2
      obtain ⟨g1, rfl⟩ : ∃ g : Nat, g = gk := ⟨_, rfl⟩
      generalize wr.heap.size = bo at *
      clear wr
      go_wp2_with fail
      clear d1 d2 d3
      go_loopg [40] 3 (fun m x wr => ∃ k : Nat, m + k = 3 ∧ x = .int .i64 (k : Int) ∧ Kp b W1 wr ∧ Bd b (L2 ++ numW ([lo, hh, ini].take k)) wr)
      case atStart => exact ⟨0, by omega, by go_num, HK3.out, by simpa [numW] using HB3.out⟩
      case round =>
        obtain ⟨k, hmk, rfl, hk, hbd⟩ := hrel
        have hkc : k = 0 ∨ k = 1 ∨ k = 2 ∨ k = 3 := by omega
        rcases hkc with hkv | hkv | hkv | hkv
        · obtain rfl : k = 0 := hkv
          have HNX := Lib.hid (show numW ([lo, hh, ini].take (0 + 1)) = numW ([lo, hh, ini].take 0) ++ (32 :: Lib.itoa lo) from by simp [numW])
          have hnl := itoa_len HI0.out
          have HGI := Lib.hid (HG.out.ext (ext_kp HX.out hk hwb))
          have HBD := Lib.hid hbd
          have HKI := Lib.hid hk
          have hb3 : (numW ([lo, hh, ini].take 0)).length ≤ 66 := numW_len HI0.out HI1.out HI2.out 0
          generalize numW ([lo, hh, ini].take 0) = N at *
          clear hk hbd
          have hix := (run_arr3 lo hh ini wr).1
          go_wp2_with fail
          clear hix
          refine (itoa_any lo wr HI0.out HGI.out).mono ?_
          rintro e w3 ⟨rfl, hE3⟩
          have HB3 := Lib.hid (HBD.out.ext hE3)
          have HK3 := Lib.hid (HKI.out.trans (Kp.ext hE3 (Nat.le_of_lt HBD.out.lt)))
          have HPS := Lib.hid (show ((⟨#[32]⟩ : ByteArray) ++ ⟨(Lib.itoa lo).toArray⟩).data.toList = 32 :: Lib.itoa lo by rw [ba_app]; rfl)
          have HSS := Lib.hid (show ((⟨#[32]⟩ : ByteArray) ++ ⟨(Lib.itoa lo).toArray⟩).size ≤ 22 by rw [ByteArray.size_append, ba_size (Lib.itoa lo)]; have e1 : (⟨#[32]⟩ : ByteArray).size = 1 := rfl; omega)
          clear hE3
          go_wp2_with fail
          generalize ((⟨#[32]⟩ : ByteArray) ++ ⟨(Lib.itoa lo).toArray⟩) = pz at *
          refine (wstr_any b (L2 ++ N) pz w3 HB3.out (by have := HSS.out; simp; omega)).mono ?_
          rintro e w4 ⟨rfl, hW4⟩
          have HK4 := Lib.hid (HK3.out.trans hW4.2)
          have HB4 := Lib.hid (show Bd b (L2 ++ numW ([lo, hh, ini].take (0 + 1))) w4 by rw [HNX.out, ← HPS.out, ← List.append_assoc]; exact hW4.1)
          clear hW4
          go_wp2_with fail
          go_roundg (gk - 1)
          case measure => omega
          case rel => exact ⟨0 + 1, by omega, by go_num, HK4.out, HB4.out⟩
        · obtain rfl : k = 1 := hkv
          have HNX := Lib.hid (show numW ([lo, hh, ini].take (1 + 1)) = numW ([lo, hh, ini].take 1) ++ (32 :: Lib.itoa hh) from by simp [numW])
          have hnl := itoa_len HI1.out
          have HGI := Lib.hid (HG.out.ext (ext_kp HX.out hk hwb))
          have HBD := Lib.hid hbd
          have HKI := Lib.hid hk
          have hb3 : (numW ([lo, hh, ini].take 1)).length ≤ 66 := numW_len HI0.out HI1.out HI2.out 1
          generalize numW ([lo, hh, ini].take 1) = N at *
          clear hk hbd
          have hix := (run_arr3 lo hh ini wr).2.1
          go_wp2_with fail
          clear hix
          refine (itoa_any hh wr HI1.out HGI.out).mono ?_
          rintro e w3 ⟨rfl, hE3⟩
          have HB3 := Lib.hid (HBD.out.ext hE3)
          have HK3 := Lib.hid (HKI.out.trans (Kp.ext hE3 (Nat.le_of_lt HBD.out.lt)))
          have HPS := Lib.hid (show ((⟨#[32]⟩ : ByteArray) ++ ⟨(Lib.itoa hh).toArray⟩).data.toList = 32 :: Lib.itoa hh by rw [ba_app]; rfl)
          have HSS := Lib.hid (show ((⟨#[32]⟩ : ByteArray) ++ ⟨(Lib.itoa hh).toArray⟩).size ≤ 22 by rw [ByteArray.size_append, ba_size (Lib.itoa hh)]; have e1 : (⟨#[32]⟩ : ByteArray).size = 1 := rfl; omega)
          clear hE3
          go_wp2_with fail
          generalize ((⟨#[32]⟩ : ByteArray) ++ ⟨(Lib.itoa hh).toArray⟩) = pz at *
          refine (wstr_any b (L2 ++ N) pz w3 HB3.out (by have := HSS.out; simp; omega)).mono ?_
          rintro e w4 ⟨rfl, hW4⟩
          have HK4 := Lib.hid (HK3.out.trans hW4.2)
          have HB4 := Lib.hid (show Bd b (L2 ++ numW ([lo, hh, ini].take (1 + 1))) w4 by rw [HNX.out, ← HPS.out, ← List.append_assoc]; exact hW4.1)
          clear hW4
          go_wp2_with fail
          go_roundg (gk - 1)
          case measure => omega
          case rel => exact ⟨1 + 1, by omega, by go_num, HK4.out, HB4.out⟩
        · obtain rfl : k = 2 := hkv
          have HNX := Lib.hid (show numW ([lo, hh, ini].take (2 + 1)) = numW ([lo, hh, ini].take 2) ++ (32 :: Lib.itoa ini) from by simp [numW])
          have hnl := itoa_len HI2.out
          have HGI := Lib.hid (HG.out.ext (ext_kp HX.out hk hwb))
          have HBD := Lib.hid hbd
          have HKI := Lib.hid hk
          have hb3 : (numW ([lo, hh, ini].take 2)).length ≤ 66 := numW_len HI0.out HI1.out HI2.out 2
          generalize numW ([lo, hh, ini].take 2) = N at *
          clear hk hbd
          have hix := (run_arr3 lo hh ini wr).2.2
          go_wp2_with fail
          clear hix
          refine (itoa_any ini wr HI2.out HGI.out).mono ?_
          rintro e w3 ⟨rfl, hE3⟩
          have HB3 := Lib.hid (HBD.out.ext hE3)
          have HK3 := Lib.hid (HKI.out.trans (Kp.ext hE3 (Nat.le_of_lt HBD.out.lt)))
          have HPS := Lib.hid (show ((⟨#[32]⟩ : ByteArray) ++ ⟨(Lib.itoa ini).toArray⟩).data.toList = 32 :: Lib.itoa ini by rw [ba_app]; rfl)
          have HSS := Lib.hid (show ((⟨#[32]⟩ : ByteArray) ++ ⟨(Lib.itoa ini).toArray⟩).size ≤ 22 by rw [ByteArray.size_append, ba_size (Lib.itoa ini)]; have e1 : (⟨#[32]⟩ : ByteArray).size = 1 := rfl; omega)
          clear hE3
          go_wp2_with fail
          generalize ((⟨#[32]⟩ : ByteArray) ++ ⟨(Lib.itoa ini).toArray⟩) = pz at *
          refine (wstr_any b (L2 ++ N) pz w3 HB3.out (by have := HSS.out; simp; omega)).mono ?_
          rintro e w4 ⟨rfl, hW4⟩
          have HK4 := Lib.hid (HK3.out.trans hW4.2)
          have HB4 := Lib.hid (show Bd b (L2 ++ numW ([lo, hh, ini].take (2 + 1))) w4 by rw [HNX.out, ← HPS.out, ← List.append_assoc]; exact hW4.1)
          clear hW4
          go_wp2_with fail
          go_roundg (gk - 1)
          case measure => omega
          case rel => exact ⟨2 + 1, by omega, by go_num, HK4.out, HB4.out⟩
        · obtain rfl : k = 3 := hkv
          have HBD := Lib.hid hbd
          have HKI := Lib.hid hk
          have hb3 : (numW ([lo, hh, ini].take 3)).length ≤ 66 := numW_len HI0.out HI1.out HI2.out 3
          have HNN := Lib.hid (show numW ([lo, hh, ini].take 3) = (32 :: Lib.itoa lo) ++ (32 :: Lib.itoa hh) ++ (32 :: Lib.itoa ini) by simp [numW])
          generalize numW ([lo, hh, ini].take 3) = N at *
          clear hk hbd
          go_wp2_with fail
          refine (show Calls Tryz.prog 15 #[.pointer (some ⟨b, 0, none⟩), .int .u8 10] wr fun e w' => e = .returned .nilIface ∧ Wr b (L2 ++ N ++ [10]) wr w' from wbyte_any b (L2 ++ N) 10 wr HBD.out (by simp; omega)).mono ?_
          rintro e w4 ⟨rfl, hW4⟩
          have HK4 := Lib.hid (HKI.out.trans hW4.2)
          have HB4 := Lib.hid (show Bd b ((vs.take (i + 1)).flatMap varL) w4 by
            rw [HTK.out]
            have e := hW4.1
            rw [HNN.out, ← HL2.out, HPS.out] at e
            simpa [varL] using e)
          clear hW4
          go_wp2_with fail
          go_roundg (g1 - 1)
          case measure => have := HMI.out; omega
          case rel => exact ⟨i + 1, by have := HMI.out; omega, by go_num, HK4.out, HB4.out⟩
    · have hiI : ¬ (i : Int) < (vs.length : Int) := by omega
      have hin : i = vs.length := by have := HMI.out; omega
      have HAL := Lib.hid (show (vs.take i).flatMap varL = vs.flatMap varL by rw [hin, List.take_length])
      have hLV := HVL.out i
      generalize (vs.take i).flatMap varL = LV at *
      have HBA := Lib.hid hbd
      have HKA := Lib.hid hk
      have h12 := HR12.out HT.out
      have HRL := Lib.hid (flat_upto (f := ruleL vs) (K := 9743) (M := 12) (fun r hr => ruleL_len HVFF.out (HRG.out HT.out r hr)) h12)
      have m1 := blk_cell ((hk.below.block w.heap.size hwb1).trans HM.out) (i := 1) rfl
      clear hbd hk hin HMI
      obtain ⟨g0, rfl⟩ : ∃ g : Nat, g = gk := ⟨_, rfl⟩
      obtain ⟨wa, rfl⟩ : ∃ x : World, x = wr := ⟨_, rfl⟩
      obtain ⟨iv, rfl⟩ : ∃ x : Nat, x = i := ⟨_, rfl⟩
      go_wp2_with fail
      clear m1
      go_loopg [54] rs.length (fun m x wr => ∃ i : Nat, m + i = rs.length ∧ x = .int .i64 (i : Int) ∧ Kp b W1 wr ∧ Bd b (LV ++ (rs.take i).flatMap (ruleL vs)) wr)
      case atStart => exact ⟨0, by omega, by go_num, HKA.out, by simpa using HBA.out⟩
      case round =>
        obtain ⟨i, hmi, rfl, hk, hbd⟩ := hrel
        have HMI := Lib.hid hmi
        clear hmi
        by_cases hi : i < rs.length
        · obtain rfl := HAR.out (by omega)
          obtain ⟨gv, sv, c0, c1, hgo, hso⟩ := HRC.out i hi
          have hXW := ext_kp HX.out hk hwb
          have c0 := cell_later hXW c0
          have c1 := cell_later hXW c1
          have HRR := Lib.hid (HRG.out HT.out rs[i] (by simp))
          have HTK := Lib.hid (flat_take (ruleL vs) rs hi)
          have hL := HRL.out i
          generalize (rs.take i).flatMap (ruleL vs) = LR at *
          obtain ⟨ag, cg, rfl⟩ := hgo.val
          obtain ⟨sa, sc, rfl, _, bs, os, hsa, hsc⟩ := hso.at
          generalize rs[i] = r at *
          obtain ⟨gl, ss⟩ := r
          simp only at c0 c1 hgo hso hsa hsc
          have HGO := Lib.hid hgo
          have HSA := Lib.hid hsa
          have HSC := Lib.hid hsc
          have hss6 : ss.length ≤ 6 := HRR.out.six
          have hwl := wordsL_len HVFF.out HRR.out.guard.fit HRR.out.guard.len.2
          have HGF := Lib.hid HRR.out.guard.fit
          have HGN := Lib.hid (show gl.length ≤ 1000 by have := HRR.out.guard.len.2; simp only at this; omega)
          simp only at hwl HGF
          have hiI : (i : Int) < (rs.length : Int) := by omega
          have hi0 : (0 : Int) ≤ (i : Int) := by omega
          have hEo := ext_al (Ext.refl wr) (Obj.cells #[.slice ag gl.length cg, .slice sa ss.length sc] 46)
          have hbo := blk_new wr (Obj.cells #[.slice ag gl.length cg, .slice sa ss.length sc] 46)
          have HBD := Lib.hid (hbd.ext hEo)
          have HK := Lib.hid (hk.trans (Kp.ext hEo (Nat.le_of_lt hbd.lt)))
          have HBO := Lib.hid hbo
          have hob : b < wr.heap.size := hbd.lt
          have hmt := (HK.out.below.block w.heap.size hwb1).trans HM.out
          have m0 := blk_cell hmt (i := 0) rfl
          have m1 := blk_cell hmt (i := 1) rfl
          have d0 := blk_cell hbo (i := 0) rfl
          have HPS := Lib.hid (show ((⟨#[114, 117, 108, 101]⟩ : ByteArray) ++ ⟨(wordsL vs gl).toArray⟩).data.toList = [114, 117, 108, 101] ++ wordsL vs gl by rw [ba_app])
          have HSS := Lib.hid (show ((⟨#[114, 117, 108, 101]⟩ : ByteArray) ++ ⟨(wordsL vs gl).toArray⟩).size ≤ 1385 by rw [ByteArray.size_append, ba_size (wordsL vs gl)]; have e4 : (⟨#[114, 117, 108, 101]⟩ : ByteArray).size = 4 := rfl; omega)
          clear hbd hk hEo hbo hmt hsa hsc hgo hso hXW
          go_wp2_with fail
          generalize hWO : wr.alloc (Obj.cells #[.slice ag gl.length cg, .slice sa ss.length sc] 46) = wo at *
          clear hWO
          have HXO := Lib.hid (ext_kp HX.out HK.out hwb)
          refine (words_any _ _ _ vs gl wo (H1.out.ext HXO.out) (HGO.out.ext HXO.out) (HG.out.ext HXO.out) HVFF.out HGF.out HGN.out).mono ?_
          rintro e w3 ⟨rfl, hE3⟩
          have hb3 := blk_ext HBO.out hE3
          have HB3 := Lib.hid (HBD.out.ext hE3)
          have HK3 := Lib.hid (HK.out.trans (Kp.ext hE3 (Nat.le_of_lt HBD.out.lt)))
          have HBO3 := Lib.hid hb3
          clear hE3 hb3 m0 m1 d0 c0 c1
          go_wp2_with fail
          generalize ((⟨#[114, 117, 108, 101]⟩ : ByteArray) ++ ⟨(wordsL vs gl).toArray⟩) = pw at *
          refine (wstr_any b (LV ++ LR) pw w3 HB3.out (by have := HSS.out; simp only [List.length_append]; omega)).mono ?_
          rintro e w4 ⟨rfl, hW4⟩
          have hb4 := hW4.2.same wr.heap.size _ _ _ (by omega) HBO3.out (by decide)
          have d1 := blk_cell hb4 (i := 1) rfl
          have HK4 := Lib.hid (HK3.out.trans hW4.2)
          have HB4 := Lib.hid hW4.1
          clear hW4 hb4
          obtain ⟨L2, hL2⟩ : ∃ L2, LV ++ LR ++ pw.data.toList = L2 := ⟨_, rfl⟩
          have hlen2 : L2.length ≤ 130000 := by
            have := HSS.out
            have e2 : pw.data.toList.length = pw.size := Array.length_toList
            rw [← hL2]
            simp only [List.length_append]; omega
          rw [hL2] at HB4
          have HL2 := Lib.hid hL2
          clear hL2
          have HSL := Lib.hid (flat_upto (f := setTx vs) (K := 1393) (M := 6) (l := ss) (fun s hs => setTx_len HVFF.out ((HRR.out.sets s hs).2.2).fit ((HRR.out.sets s hs).2.2).len.2) hss6)
          obtain ⟨g1, rfl⟩ : ∃ g : Nat, g = gk := ⟨_, rfl⟩
          generalize wr.heap.size = bo at *
          clear wr
          go_wp2_with fail
          clear d1
          go_loopg [68] ss.length (fun m x wr => ∃ k : Nat, m + k = ss.length ∧ x = .int .i64 (k : Int) ∧ Kp b W1 wr ∧ Bd b (L2 ++ (ss.take k).flatMap (setTx vs)) wr)
          case atStart => exact ⟨0, by omega, by go_num, HK4.out, by simpa using HB4.out⟩
          case round =>
            obtain ⟨k, hmk, rfl, hk, hbd⟩ := hrel
            have HMK := Lib.hid hmk
            clear hmk
            by_cases hki : k < ss.length
            · obtain rfl := HSA.out (by omega)
              obtain ⟨u, e0, e1, hu⟩ := HSC.out k hki
              have hXW := ext_kp HX.out hk hwb
              have e0 := cell_later hXW e0
              have e1 := cell_later hXW e1
              obtain ⟨s0, s1, s2⟩ := HRR.out.sets ss[k] (by simp)
              have HTS := Lib.hid (flat_take (setTx vs) ss hki)
              have hL3 := HSL.out k
              have HUF := Lib.hid s2.fit
              have HUN := Lib.hid (show ss[k].2.length ≤ 1000 by have := s2.len.2; omega)
              have hwu := wordsL_len HVFF.out s2.fit s2.len.2
              clear s2
              generalize (ss.take k).flatMap (setTx vs) = LS at *
              obtain ⟨au, cu, rfl⟩ := hu.val
              generalize ss[k] = s at *
              obtain ⟨x, ul⟩ := s
              simp only at e0 e1 hu s0 s1 HUF HUN hwu
              obtain ⟨q, rfl⟩ : ∃ q : Nat, x = (q : Int) := ⟨x.toNat, by omega⟩
              have hqn : q < vs.length := by omega
              obtain rfl := HAV.out (by omega)
              have v0 := cell_later hXW (HVC.out q hqn).1
              have HV0 := Lib.hid (HVC.out q hqn).1
              have HNM := Lib.hid (show vs[q].name.data.toList = nameL vs (q : Int) by simp [nameL, hqn])
              have hnm := (HVFF.out vs[q] (by simp)).name
              generalize vs[q].name = nm at *
              have hqI : (q : Int) < (vs.length : Int) := by omega
              have hq0 : (0 : Int) ≤ (q : Int) := by omega
              have hkI : (k : Int) < (ss.length : Int) := by omega
              have hk0 : (0 : Int) ≤ (k : Int) := by omega
              have hEo := ext_al (Ext.refl wr) (Obj.cells #[.int .i64 (q : Int), .slice au ul.length cu] 49)
              have hbo := blk_new wr (Obj.cells #[.int .i64 (q : Int), .slice au ul.length cu] 49)
              have HBD2 := Lib.hid (hbd.ext hEo)
              have HKS := Lib.hid (hk.trans (Kp.ext hEo (Nat.le_of_lt hbd.lt)))
              have HBS := Lib.hid hbo
              have hob2 : b < wr.heap.size := hbd.lt
              have HMT := Lib.hid ((HKS.out.below.block w.heap.size hwb1).trans HM.out)
              have m0 := blk_cell HMT.out (i := 0) rfl
              have m1 := blk_cell HMT.out (i := 1) rfl
              have f0 := blk_cell hbo (i := 0) rfl
              have f1 := blk_cell hbo (i := 1) rfl
              have v0 := cell_later hEo v0
              have HUO := Lib.hid hu
              clear hbd hk hEo hbo hu hXW
              have hz1 : wr.heap.size < (wr.alloc (Obj.cells #[.int .i64 (q : Int), .slice au ul.length cu] 49)).heap.size := by simp
              go_upto_region 23 with fail
              generalize hWO : wr.alloc (Obj.cells #[.int .i64 (q : Int), .slice au ul.length cu] 49) = wq at *
              clear hWO
              have HWD := Lib.hid fun wx (hx : Ext w wx) => (show Calls Tryz.prog 16 #[.agg #[.slice (some ⟨bv, ov, none⟩) vs.length cv, .slice (some ⟨br, orr, none⟩) rs.length cr], .slice au ul.length cu] wx fun e w' => e = .returned (.string ⟨(wordsL vs ul).toArray⟩) ∧ Ext wx w' from words_any _ _ _ vs ul wx (H1.out.ext hx) (HUO.out.ext hx) (HG.out.ext hx) HVFF.out HUF.out HUN.out)
              have hsz1 : ((⟨#[115, 101, 116, 32]⟩ : ByteArray) ++ nm).size ≤ 12 := by rw [ByteArray.size_append]; have e4 : (⟨#[115, 101, 116, 32]⟩ : ByteArray).size = 4 := rfl; omega
              have hsz2 : ((⟨#[115, 101, 116, 32]⟩ : ByteArray) ++ nm ++ ⟨(wordsL vs ul).toArray⟩).size ≤ 1400 := by rw [ByteArray.size_append, ba_size (wordsL vs ul)]; omega
              have HPT := Lib.hid (show ((⟨#[115, 101, 116, 32]⟩ : ByteArray) ++ nm ++ ⟨(wordsL vs ul).toArray⟩).data.toList = [115, 101, 116, 32] ++ nm.data.toList ++ wordsL vs ul by rw [ba_app, ba_app])
              have HWS := Lib.hid fun wx (hb : Bd b (L2 ++ LS) wx) => wstr_any b (L2 ++ LS) ((⟨#[115, 101, 116, 32]⟩ : ByteArray) ++ nm ++ ⟨(wordsL vs ul).toArray⟩) wx hb (by simp only [List.length_append]; omega)
              have HXQ := Lib.hid (ext_kp HX.out HKS.out hwb)
              have hcc1 : ¬ (9223372036854775807 < 4 + nm.size) := by omega
              have hcc2 : ¬ (9223372036854775807 < 4 + nm.size + (wordsL vs ul).length) := by omega
              have cur := Ext.refl wq
              go_region_held3 (fun w' => w'.cell? ⟨w.heap.size, 0, none⟩ = some (.slice (some ⟨bv, ov, none⟩) vs.length cv) ∧ w'.cell? ⟨w.heap.size, 1, none⟩ = some (.slice (some ⟨br, orr, none⟩) rs.length cr) ∧ w'.cell? ⟨wr.heap.size, 0, none⟩ = some (.int .i64 (q : Int)) ∧ w'.cell? ⟨wr.heap.size, 1, none⟩ = some (.slice au ul.length cu) ∧ w'.cell? ⟨bv, ov + q * 4, none⟩ = some (.string nm))
                (first | exact ⟨m0, m1, f0, f1, v0⟩)
                (first
                  | (go_at_call 16
                     refine (HWD.out _ (HXQ.out.trans (Below.drew (Ext.refl _)))).mono ?_
                     rintro e w5 ⟨rfl, hE5⟩
                     replace cur := Ext.trans (Below.drew (Ext.refl _)) hE5
                     replace m0 := cell_later cur m0
                     replace m1 := cell_later cur m1
                     replace f0 := cell_later cur f0
                     replace f1 := cell_later cur f1
                     replace v0 := cell_later cur v0
                     have HB5 := Lib.hid (HBD2.out.ext cur)
                     have HK5 := Lib.hid (HKS.out.trans (Kp.ext cur (Nat.le_of_lt HBD2.out.lt)))
                     have HF5 := Lib.hid (blk_ext HBS.out cur))
                  | (go_at_call 13
                     refine (HWS.out _ HB5.out).mono ?_
                     rintro e w6 ⟨rfl, hW6⟩
                     replace m0 := blk_cell ((hW6.2.below.block w.heap.size hwb1).trans ((HK5.out.below.block w.heap.size hwb1).trans HM.out)) (i := 0) rfl
                     replace m1 := blk_cell ((hW6.2.below.block w.heap.size hwb1).trans ((HK5.out.below.block w.heap.size hwb1).trans HM.out)) (i := 1) rfl
                     replace f0 := blk_cell (hW6.2.same wr.heap.size _ _ _ (by omega) HF5.out (by decide)) (i := 0) rfl
                     replace f1 := blk_cell (hW6.2.same wr.heap.size _ _ _ (by omega) HF5.out (by decide)) (i := 1) rfl
                     replace v0 := old_cell HV0.out HX.out (HK5.out.trans hW6.2).below hwb))
              have HB6 := Lib.hid (show Bd b (L2 ++ (ss.take (k + 1)).flatMap (setTx vs)) w6 by
                have e := hW6.1
                rw [HPT.out, HNM.out] at e
                rw [HTS.out]
                simpa [setTx] using e)
              have HK6 := Lib.hid (HK5.out.trans hW6.2)
              clear hW6 cur m0 m1 f0 f1 v0 e0 e1 hcc1 hcc2 HB5 HK5 HF5 HWD HWS hE5
              go_wp2_with fail
              go_roundg (gk - 1)
              case measure => have := HMK.out; omega
              case rel => exact ⟨k + 1, by have := HMK.out; omega, by go_num, HK6.out, HB6.out⟩
            · have hkI : ¬ (k : Int) < (ss.length : Int) := by omega
              have HB6 := Lib.hid (show Bd b (LV ++ (rs.take (i + 1)).flatMap (ruleL vs)) wr by
                have e := hbd
                rw [List.take_of_length_le (by omega), ← HL2.out, HPS.out] at e
                rw [HTK.out]
                simpa [ruleL] using e)
              have HK6 := Lib.hid hk
              clear hbd hk
              go_wp2_with fail
              go_roundg (g1 - 1)
              case measure => have := HMI.out; omega
              case rel => exact ⟨i + 1, by have := HMI.out; omega, by go_num, HK6.out, HB6.out⟩
        · have hiI : ¬ (i : Int) < (rs.length : Int) := by omega
          have hin : i = rs.length := by have := HMI.out; omega
          have HAR2 := Lib.hid (show (rs.take i).flatMap (ruleL vs) = rs.flatMap (ruleL vs) by rw [hin, List.take_length])
          have hLR := HRL.out i
          generalize (rs.take i).flatMap (ruleL vs) = LR at *
          have HBA2 := Lib.hid hbd
          have HKA2 := Lib.hid hk
          have hp6 := HP6.out HT.out
          have HPL := Lib.hid (flat_upto (f := propL vs) (K := 1385) (M := 6) (fun p hp => propL_len HVFF.out (HPG.out HT.out p hp)) hp6)
          have m2 := blk_cell ((hk.below.block w.heap.size hwb1).trans HM.out) (i := 2) rfl
          clear hbd hk hin HMI
          obtain ⟨g1, rfl⟩ : ∃ g : Nat, g = gk := ⟨_, rfl⟩
          obtain ⟨wb, rfl⟩ : ∃ x : World, x = wr := ⟨_, rfl⟩
          obtain ⟨iw, rfl⟩ : ∃ x : Nat, x = i := ⟨_, rfl⟩
          go_wp2_with fail
          clear m2
          go_loopg [93] ps.length (fun m x wr => ∃ i : Nat, m + i = ps.length ∧ x = .int .i64 (i : Int) ∧ Kp b W1 wr ∧ Bd b (LV ++ LR ++ (ps.take i).flatMap (propL vs)) wr)
          case atStart => exact ⟨0, by omega, by go_num, HKA2.out, by simpa using HBA2.out⟩
          case round =>
            obtain ⟨i, hmi, rfl, hk, hbd⟩ := hrel
            have HMI := Lib.hid hmi
            clear hmi
            by_cases hi : i < ps.length
            · obtain rfl := HAP.out (by omega)
              obtain ⟨pv, c0, hpo⟩ := HPP.out i hi
              have hXW := ext_kp HX.out hk hwb
              have c0 := cell_later hXW c0
              have HTK := Lib.hid (flat_take (propL vs) ps hi)
              have hL := HPL.out i
              have hkg := HPG.out HT.out ps[i] (by simp)
              generalize (ps.take i).flatMap (propL vs) = LP at *
              obtain ⟨ag, cg, rfl⟩ := hpo.val
              generalize ps[i] = gl at *
              have HGO := Lib.hid (hpo.ext hXW)
              have HV1 := Lib.hid (H1.out.ext hXW)
              have HG1 := Lib.hid (HG.out.ext hXW)
              have hwl := wordsL_len HVFF.out hkg.fit hkg.len.2
              have HGF := Lib.hid hkg.fit
              have HGN := Lib.hid (show gl.length ≤ 1000 by have := hkg.len.2; omega)
              have hiI : (i : Int) < (ps.length : Int) := by omega
              have hi0 : (0 : Int) ≤ (i : Int) := by omega
              have hmt := (hk.below.block w.heap.size hwb1).trans HM.out
              have m0 := blk_cell hmt (i := 0) rfl
              have m1 := blk_cell hmt (i := 1) rfl
              have HBD := Lib.hid hbd
              have HK := Lib.hid hk
              have HPS := Lib.hid (show ((⟨#[112, 114, 111, 112]⟩ : ByteArray) ++ ⟨(wordsL vs gl).toArray⟩).data.toList = [112, 114, 111, 112] ++ wordsL vs gl by rw [ba_app])
              have HSS := Lib.hid (show ((⟨#[112, 114, 111, 112]⟩ : ByteArray) ++ ⟨(wordsL vs gl).toArray⟩).size ≤ 1385 by rw [ByteArray.size_append, ba_size (wordsL vs gl)]; have e4 : (⟨#[112, 114, 111, 112]⟩ : ByteArray).size = 4 := rfl; omega)
              clear hbd hk hmt hpo hXW hkg
              go_wp2_with fail
              refine (words_any _ _ _ vs gl wr HV1.out HGO.out HG1.out HVFF.out HGF.out HGN.out).mono ?_
              rintro e w3 ⟨rfl, hE3⟩
              have HB3 := Lib.hid (HBD.out.ext hE3)
              have HK3 := Lib.hid (HK.out.trans (Kp.ext hE3 (Nat.le_of_lt HBD.out.lt)))
              clear hE3 m0 m1 c0
              go_wp2_with fail
              generalize ((⟨#[112, 114, 111, 112]⟩ : ByteArray) ++ ⟨(wordsL vs gl).toArray⟩) = pw at *
              refine (wstr_any b (LV ++ LR ++ LP) pw w3 HB3.out (by have := HSS.out; simp only [List.length_append]; omega)).mono ?_
              rintro e w4 ⟨rfl, hW4⟩
              have HK4 := Lib.hid (HK3.out.trans hW4.2)
              have HB4 := Lib.hid (show Bd b (LV ++ LR ++ (ps.take (i + 1)).flatMap (propL vs)) w4 by
                have e := hW4.1
                rw [HPS.out] at e
                rw [HTK.out]
                simpa [propL] using e)
              clear hW4
              go_wp2_with fail
              go_roundg (gk - 1)
              case measure => have := HMI.out; omega
              case rel => exact ⟨i + 1, by have := HMI.out; omega, by go_num, HK4.out, HB4.out⟩
            · have hiI : ¬ (i : Int) < (ps.length : Int) := by omega
              have hin : i = ps.length := by have := HMI.out; omega
              have HAP2 := Lib.hid (show (ps.take i).flatMap (propL vs) = ps.flatMap (propL vs) by rw [hin, List.take_length])
              have hLP := HPL.out i
              generalize (ps.take i).flatMap (propL vs) = LP at *
              have hXW := ext_kp HX.out hk hwb
              have hfg := HFG.out HT.out
              have HGO := Lib.hid (H4.out.ext hXW)
              have HV1 := Lib.hid (H1.out.ext hXW)
              have HG1 := Lib.hid (HG.out.ext hXW)
              have hwl := wordsL_len HVFF.out (hfg.opfit vs.length) hfg.len
              have HGF := Lib.hid (hfg.opfit vs.length)
              have HGN := Lib.hid (show fm.length ≤ 1000 by have := hfg.len; omega)
              have hmt := (hk.below.block w.heap.size hwb1).trans HM.out
              have m0 := blk_cell hmt (i := 0) rfl
              have m1 := blk_cell hmt (i := 1) rfl
              have m3 := blk_cell hmt (i := 3) rfl
              have HBD := Lib.hid hbd
              have HK := Lib.hid hk
              have HPS := Lib.hid (show ((⟨#[99, 104, 101, 99, 107]⟩ : ByteArray) ++ ⟨(wordsL vs fm).toArray⟩).data.toList = [99, 104, 101, 99, 107] ++ wordsL vs fm by rw [ba_app])
              have HSS := Lib.hid (show ((⟨#[99, 104, 101, 99, 107]⟩ : ByteArray) ++ ⟨(wordsL vs fm).toArray⟩).size ≤ 1386 by rw [ByteArray.size_append, ba_size (wordsL vs fm)]; have e4 : (⟨#[99, 104, 101, 99, 107]⟩ : ByteArray).size = 5 := rfl; omega)
              clear hbd hk hmt hXW hfg hin HMI
              go_wp2_with fail
              refine (words_any _ _ _ vs fm wr HV1.out HGO.out HG1.out HVFF.out HGF.out HGN.out).mono ?_
              rintro e w3 ⟨rfl, hE3⟩
              have HB3 := Lib.hid (HBD.out.ext hE3)
              have HK3 := Lib.hid (HK.out.trans (Kp.ext hE3 (Nat.le_of_lt HBD.out.lt)))
              clear hE3 m0 m1 m3
              go_wp2_with fail
              generalize ((⟨#[99, 104, 101, 99, 107]⟩ : ByteArray) ++ ⟨(wordsL vs fm).toArray⟩) = pw at *
              refine (wstr_any b (LV ++ LR ++ LP) pw w3 HB3.out (by have := HSS.out; simp only [List.length_append]; omega)).mono ?_
              rintro e w4 ⟨rfl, hW4⟩
              have HK4 := Lib.hid (HK3.out.trans hW4.2)
              have HB4 := Lib.hid hW4.1
              clear hW4
              go_wp2_with fail
              refine (bstr_any b _ w4 HB4.out).mono ?_
              rintro e w5 ⟨rfl, hb5⟩
              have HXX := Lib.hid (Below.trans (ext_kp HX.out HK4.out hwb) (hb5.mono hwb))
              have HEQ := Lib.hid (show (⟨(LV ++ LR ++ LP ++ pw.data.toList).toArray⟩ : ByteArray) = ⟨SH.toArray⟩ by
                rw [HSH.out, HPS.out, HAL.out, HAR2.out, HAP2.out]; rfl)
              clear hb5
              generalize (⟨(LV ++ LR ++ LP ++ pw.data.toList).toArray⟩ : ByteArray) = sx at *
              go_wp2
              go_ret2
              exact HGOOD.out sx _ HEQ.out HT.out HXX.out
end Go.Proofs.YtfcaomejbcjfgaaGreatDoor

namespace Go.Proofs.YtfcaomejbcjfgaaGreatDoor
theorem digit_ne (n : Nat) (hn : n < 10) : UInt8.ofNat (48 + n) ≠ 10 ∧ UInt8.ofNat (48 + n) ≠ 32 := by
  have : ∀ m, m < 10 → UInt8.ofNat (48 + m) ≠ 10 ∧ UInt8.ofNat (48 + m) ≠ 32 := by decide
  exact this n hn
theorem mark_ne (k : Nat) : ∀ c ∈ marksL.getD k [], c ≠ 10 ∧ c ≠ 32 := by
  by_cases h : k < 19
  · have : ∀ j, j < 19 → ∀ c ∈ marksL.getD j [], c ≠ 10 ∧ c ≠ 32 := by decide
    exact this k h
  · intro c hc
    rw [List.getD_eq_getElem?_getD, List.getElem?_eq_none (by simp [marksL]; omega)] at hc
    simp at hc
theorem name_ne {s : ByteArray} (h : NameOk s) : ∀ c ∈ s.data.toList, c ≠ 10 ∧ c ≠ 32 := by
  intro c hc
  obtain ⟨i, hi, rfl⟩ := List.getElem_of_mem hc
  have hi2 : i < s.size := by simpa using hi
  have := h.ch i hi2
  have e : s.data.toList[i] = s[i] := by simp [ByteArray.getElem_eq_getElem_data]
  rw [e]
  constructor <;> (intro e2; rw [e2] at this; simp at this)
def NoEnd (l : List UInt8) : Prop := ∀ c ∈ l, c ≠ 10 ∧ c ≠ 32
theorem nameL_ne {vs : List Vr} (h : ∀ v ∈ vs, NameOk v.name) (i : Int) : NoEnd (nameL vs i) := by
  unfold nameL
  by_cases hi : i.toNat < vs.length
  · rw [List.getD_eq_getElem?_getD, List.getElem?_eq_getElem hi]
    exact name_ne (h _ (List.getElem_mem hi))
  · rw [List.getD_eq_getElem?_getD, List.getElem?_eq_none (by omega)]
    intro c hc; simp at hc
theorem itoa_ne (n : Int) : NoEnd (Lib.itoa n) := by
  have dec : ∀ (k m : Nat), m < k → NoEnd (Lib.decDigits m) := by
    intro k
    induction k with
    | zero => intro m h; omega
    | succ k ih =>
      intro m hm
      rw [Lib.decDigits]
      by_cases h : m < 10
      · rw [dif_pos h]
        intro c hc
        rw [List.mem_singleton] at hc
        rw [hc]
        exact digit_ne m h
      · rw [dif_neg h]
        intro c hc
        rcases List.mem_append.1 hc with hc | hc
        · exact ih (m / 10) (by omega) c hc
        · rw [List.mem_singleton] at hc
          rw [hc]
          exact digit_ne (m % 10) (by omega)
  unfold Lib.itoa
  split
  · intro c hc
    rcases List.mem_cons.1 hc with rfl | hc
    · decide
    · exact dec _ _ (Nat.lt_succ_self _) c hc
  · exact dec _ _ (Nat.lt_succ_self _)
theorem wordO_ne {vs : List Vr} (h : ∀ v ∈ vs, NameOk v.name) (o : Op2) : NoEnd (wordO vs o) := by
  unfold wordO
  split
  · exact itoa_ne _
  · split
    · exact nameL_ne h _
    · split
      · intro c hc
        rcases List.mem_cons.1 hc with rfl | hc
        · decide
        · exact itoa_ne _ c hc
      · exact mark_ne _
def joinW (ws : List (List UInt8)) : List UInt8 := ws.flatMap fun w => 32 :: w
theorem joinW_ne {ws : List (List UInt8)} (h : ∀ w ∈ ws, NoEnd w) : ∀ c ∈ joinW ws, c ≠ 10 := by
  intro c hc
  obtain ⟨w, hw, hc⟩ := List.mem_flatMap.1 hc
  rcases List.mem_cons.1 hc with rfl | hc
  · decide
  · exact (h w hw c hc).1
def mkL (w : List UInt8) (ws : List (List UInt8)) : List UInt8 := w ++ joinW ws ++ [10]
def varW (v : Vr) : List (List UInt8) := [v.name.data.toList, Lib.itoa v.low, Lib.itoa v.high, Lib.itoa v.init]
def opsW (vs : List Vr) (l : List Op2) : List (List UInt8) := l.map (wordO vs)
def wVar : List UInt8 := [118, 97, 114]
def wRule : List UInt8 := [114, 117, 108, 101]
def wSet : List UInt8 := [115, 101, 116]
def wProp : List UInt8 := [112, 114, 111, 112]
def wCheck : List UInt8 := [99, 104, 101, 99, 107]
theorem opsL_eq (vs : List Vr) (l : List Op2) : opsL vs l = joinW (opsW vs l) := by
  unfold opsL joinW opsW
  rw [List.flatMap_map]
theorem varL_eq (v : Vr) : varL v = mkL wVar (varW v) := by simp [varL, mkL, wVar, varW, joinW]
theorem setTx_eq (vs : List Vr) (s : Int × List Op2) : setTx vs s = mkL wSet (nameL vs s.1 :: opsW vs s.2) := by
  unfold setTx wordsL
  rw [opsL_eq]
  simp [mkL, wSet, joinW]
theorem propL_eq (vs : List Vr) (p : List Op2) : propL vs p = mkL wProp (opsW vs p) := by
  unfold propL wordsL
  rw [opsL_eq]
  simp [mkL, wProp]
theorem checkT_eq (vs : List Vr) (p : List Op2) : checkT vs p = mkL wCheck (opsW vs p) := by
  unfold checkT wordsL
  rw [opsL_eq]
  simp [mkL, wCheck]
def ruleLs (vs : List Vr) (r : Rr) : List (List UInt8) := mkL wRule (opsW vs r.guard) :: r.sets.map (setTx vs)
theorem ruleL_eq (vs : List Vr) (r : Rr) : ruleL vs r = (ruleLs vs r).flatten := by
  unfold ruleL wordsL ruleLs
  rw [opsL_eq, List.flatten_cons, ← List.flatMap_def]
  simp [mkL, wRule]
def bodyLs (t : Rt) : List (List UInt8) := t.vars.map varL ++ t.rules.flatMap (ruleLs t.vars) ++ t.props.map (propL t.vars)
def showLs (t : Rt) : List (List UInt8) := bodyLs t ++ [checkT t.vars t.form]
theorem flat_flat {α β : Type} (f : α → List (List β)) (l : List α) : (l.flatMap f).flatten = l.flatMap fun a => (f a).flatten := by
  induction l with
  | nil => rfl
  | cons a l ih => simp [ih]
theorem showL_eq (t : Rt) : showL t = (showLs t).flatten := by
  unfold showL showLs bodyLs
  rw [List.flatten_append, List.flatten_append, List.flatten_append, flat_flat, ← List.flatMap_def, ← List.flatMap_def]
  have e : (ruleL t.vars) = fun r => (ruleLs t.vars r).flatten := funext (ruleL_eq t.vars)
  rw [e]
  simp
theorem cutN_line : ∀ {a : List UInt8} (l : List UInt8), (∀ c ∈ a, c ≠ 10) → cutN (a ++ 10 :: l) = (a ++ [10], l)
  | [], _, _ => by simp [cutN]
  | c :: a, l, h => by
    rw [List.cons_append, cutN, if_neg (h c (by simp)), cutN_line l fun x hx => h x (List.mem_cons_of_mem _ hx)]
    rfl
def IsLine (x : List UInt8) : Prop := ∃ a, x = a ++ [10] ∧ ∀ c ∈ a, c ≠ 10
theorem linesL_line {x : List UInt8} (h : IsLine x) (l : List UInt8) : linesL (x ++ l) = x :: linesL l := by
  obtain ⟨a, rfl, ha⟩ := h
  have e : a ++ [10] ++ l = a ++ 10 :: l := by simp
  rw [e, linesL_more (by simp), cutN_line l ha]
theorem linesL_flat : ∀ {ls : List (List UInt8)} (l : List UInt8), (∀ x ∈ ls, IsLine x) → linesL (ls.flatten ++ l) = ls ++ linesL l
  | [], _, _ => rfl
  | x :: ls, l, h => by
    rw [List.flatten_cons, List.append_assoc, linesL_line (h x (by simp)), linesL_flat l fun y hy => h y (List.mem_cons_of_mem _ hy)]
    rfl
theorem mkL_line {w : List UInt8} {ws : List (List UInt8)} (hw : NoEnd w) (h : ∀ x ∈ ws, NoEnd x) : IsLine (mkL w ws) :=
  ⟨w ++ joinW ws, rfl, fun c hc => by
    rcases List.mem_append.1 hc with hc | hc
    · exact (hw c hc).1
    · exact joinW_ne h c hc⟩
def NamesG (t : Rt) : Prop := ∀ v ∈ t.vars, NameOk v.name
theorem TaskG.names {t : Rt} (h : TaskG t) : NamesG t := fun v hv => (h.pr.md.vars.ok v hv).name
theorem opsW_ne {vs : List Vr} (h : ∀ v ∈ vs, NameOk v.name) (l : List Op2) : ∀ x ∈ opsW vs l, NoEnd x := by
  intro x hx
  obtain ⟨o, _, rfl⟩ := List.mem_map.1 hx
  exact wordO_ne h o
theorem ne_dec (w : List UInt8) (h : (w.all fun c => c != 10 && c != 32) = true) : NoEnd w := fun c hc => by simpa using List.all_eq_true.1 h c hc
theorem body_line {t : Rt} (h : NamesG t) : ∀ x ∈ bodyLs t, IsLine x ∧ x.head? ≠ some 99 := by
  intro x hx
  rcases List.mem_append.1 hx with hx | hx
  · rcases List.mem_append.1 hx with hx | hx
    · obtain ⟨v, hv, rfl⟩ := List.mem_map.1 hx
      rw [varL_eq]
      refine ⟨mkL_line (ne_dec _ rfl) ?_, by simp [mkL, wVar]⟩
      intro y hy
      simp [varW] at hy
      rcases hy with rfl | rfl | rfl | rfl
      · exact name_ne (h v hv)
      all_goals exact itoa_ne _
    · obtain ⟨r, _, hx⟩ := List.mem_flatMap.1 hx
      rcases List.mem_cons.1 hx with rfl | hx
      · exact ⟨mkL_line (ne_dec _ rfl) (opsW_ne h _), by simp [mkL, wRule]⟩
      · obtain ⟨s, _, rfl⟩ := List.mem_map.1 hx
        rw [setTx_eq]
        refine ⟨mkL_line (ne_dec _ rfl) ?_, by simp [mkL, wSet]⟩
        intro y hy
        rcases List.mem_cons.1 hy with rfl | hy
        · exact nameL_ne h _
        · exact opsW_ne h _ y hy
  · obtain ⟨p, _, rfl⟩ := List.mem_map.1 hx
    rw [propL_eq]
    exact ⟨mkL_line (ne_dec _ rfl) (opsW_ne h _), by simp [mkL, wProp]⟩
theorem check_line {t : Rt} (h : NamesG t) : IsLine (checkT t.vars t.form) ∧ (checkT t.vars t.form).head? = some 99 := by
  rw [checkT_eq]
  exact ⟨mkL_line (ne_dec _ rfl) (opsW_ne h _), by simp [mkL, wCheck]⟩
theorem show_lines {t : Rt} (h : NamesG t) (l : List UInt8) : linesL (showL t ++ l) = showLs t ++ linesL l := by
  rw [showL_eq]
  refine linesL_flat l fun x hx => ?_
  rcases List.mem_append.1 hx with hx | hx
  · exact (body_line h x hx).1
  · simp at hx; subst hx; exact (check_line h).1
theorem show_lines0 {t : Rt} (h : NamesG t) : linesL (showL t) = showLs t := by
  have := show_lines h []
  rw [linesL_nil] at this
  simpa using this
end Go.Proofs.YtfcaomejbcjfgaaGreatDoor
