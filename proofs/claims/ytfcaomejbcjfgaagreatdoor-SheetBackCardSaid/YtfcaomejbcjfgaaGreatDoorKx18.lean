/- Several texts in one: ShD; ShV; ShE; ShF. No condition. -/
import Derived.Test.YtfcaomejbcjfgaaGreatDoorKx17
import Derived.Test.YtfcaomejbcjfgaaGreatDoorKx15
namespace Go.Proofs.YtfcaomejbcjfgaaGreatDoor
open Go Go.RowKit
theorem check_all (v : Value) (l : List Op2) (n : Int) (w : World) (h : Ops w v l) (ht : Tab w) (h1 : 0 ≤ n) (h2 : n ≤ 6) :
    Calls Tryz.prog 59 #[v, .int .i64 n] w (CheckPost w (checkL l n)) := by
  unfold checkL
  rw [if_neg (by omega)]
  cases he : endsL l with
  | error c =>
    refine (check_ends v l n c w h ht h1 h2 he (endsL_err l he)).mono ?_
    rintro e w' ⟨rfl, hE⟩
    exact ⟨hE, rfl⟩
  | ok es => exact check_ok v l n w es h ht h1 h2 he
set_option maxRecDepth 100000 in
set_option maxHeartbeats 2000000 in
theorem kindR_any (v : Value) (l : List Op2) (n : Int) (b : Bool) (w : World) (h : Ops w v l) (ht : Tab w) (h1 : 0 ≤ n) (h2 : n ≤ 6) :
    Calls Tryz.prog 43 #[v, .int .i64 n, .bool b] w fun e w' => ∃ c : Int, e = .returned (.int .i64 c) ∧ (c = 0 ↔ KindG l n b) ∧ Ext w w' := by
  have HC := Lib.hid (check_all v l n w h ht h1 h2)
  have HE := Lib.hid fun c => checkL_err (l := l) (n := n) (c := c)
  have HK := Lib.hid (show KindG l n b = (checkL l n = .ok b) from rfl)
  clear h ht
  generalize KindG l n b = K at *
  generalize checkL l n = r at *
  go_enter Tryz.func43, Tryz.ntmps43
  go_wp2_with fail
  refine HC.out.mono ?_
  rintro e w1 ⟨hE, he⟩
  have HX := Lib.hid hE
  clear hE HC
  cases r with
  | error c =>
    subst he
    have hc := HE.out c rfl
    have hcI : (c == 0) = false := by rw [beq_eq_false_iff_ne]; exact hc
    have HCC := Lib.hid hc
    clear hc
    go_wp2
    go_ret
    exact ⟨c, rfl, (by rw [HK.out]; exact ⟨fun h => absurd h HCC.out, fun h => by cases h⟩), HX.out⟩
  | ok k =>
    subst he
    cases k <;> cases b
    all_goals
      go_wp2
      go_ret
      exact ⟨_, rfl, by rw [HK.out]; simp, HX.out⟩
set_option maxRecDepth 100000 in
set_option maxHeartbeats 2000000 in
theorem fits_any (o : Op2) (props : Int) (w : World) : Calls Tryz.prog 45 #[.agg #[.int .i64 o.1, .int .i64 o.2], .int .i64 props] w fun e w' => ∃ c : Int, e = .returned (.int .i64 c) ∧ (c = 0 ↔ 8 ≤ o.1 ∧ (o.1 = 13 → 0 ≤ o.2 ∧ o.2 < props) ∧ (o.1 ≠ 13 → o.2 = 0)) ∧ Ext w w' := by
  obtain ⟨k, v⟩ := o
  simp only
  have HF := Lib.hid (ext_al (Ext.refl w) (Obj.cells #[.int .i64 k, .int .i64 v] 79))
  by_cases hk8 : k < 8
  · go_enter Tryz.func45, Tryz.ntmps45
    go_wp2
    go_ret
    exact ⟨_, rfl, by constructor <;> intro h <;> omega, HF.out⟩
  · by_cases hk : k = 13
    · subst hk
      by_cases hv : v < 0
      · go_enter Tryz.func45, Tryz.ntmps45
        go_wp2
        go_ret
        exact ⟨_, rfl, by constructor <;> intro h <;> omega, HF.out⟩
      · by_cases hv2 : props ≤ v
        · go_enter Tryz.func45, Tryz.ntmps45
          go_wp2
          go_ret
          exact ⟨_, rfl, by constructor <;> intro h <;> omega, HF.out⟩
        · go_enter Tryz.func45, Tryz.ntmps45
          go_wp2
          go_ret
          exact ⟨_, rfl, by constructor <;> intro h <;> omega, HF.out⟩
    · have hkb : (k == 13) = false := by rw [beq_eq_false_iff_ne]; exact hk
      have hkb2 : (k != 13) = true := by rw [bne_iff_ne]; exact hk
      have HK := Lib.hid hk
      by_cases hv : v = 0
      · subst hv
        clear hk
        go_enter Tryz.func45, Tryz.ntmps45
        go_wp2
        go_ret
        exact ⟨_, rfl, by have := HK.out; constructor <;> intro h <;> omega, HF.out⟩
      · have hvb : (v != 0) = true := by rw [bne_iff_ne]; exact hv
        have HV := Lib.hid hv
        clear hk hv
        go_enter Tryz.func45, Tryz.ntmps45
        go_wp2
        go_ret
        exact ⟨_, rfl, by have := HK.out; have := HV.out; constructor <;> intro h <;> omega, HF.out⟩
end Go.Proofs.YtfcaomejbcjfgaaGreatDoor

namespace Go.Proofs.YtfcaomejbcjfgaaGreatDoor
open Go.RowKit
theorem Vr.Ok.spanR {v : Vr} (h : v.Ok) : 1 ≤ v.span ∧ v.span ≤ 64 := by
  have := h.i0; have := h.i1; have := h.sp
  unfold Vr.span; omega
theorem countR_pos : ∀ {l : List Vr}, (∀ v ∈ l, v.Ok) → 1 ≤ countL l
  | [], _ => by simp [countL]
  | v :: l, h => by
    have h1 := (h v (by simp)).spanR
    have h2 := countR_pos (l := l) fun x hx => h x (by simp [hx])
    have := Int.mul_le_mul h1.1 h2 (by omega) (by omega)
    simpa [countL] using this
theorem countR_app (a b : List Vr) : countL (a ++ b) = countL a * countL b := by
  induction a with
  | nil => simp [countL]
  | cons v l ih => simp only [List.cons_append, countL, ih]; rw [Int.mul_assoc]
theorem countR_take {l : List Vr} (h : ∀ v ∈ l, v.Ok) (i : Nat) : 1 ≤ countL (l.take i) ∧ countL (l.take i) ≤ countL l := by
  have h1 := countR_pos (l := l.take i) fun v hv => h v (List.mem_of_mem_take hv)
  have h2 := countR_pos (l := l.drop i) fun v hv => h v (List.mem_of_mem_drop hv)
  have e : countL l = countL (l.take i) * countL (l.drop i) := by rw [← countR_app, List.take_append_drop]
  refine ⟨h1, ?_⟩
  rw [e]
  have := Int.mul_le_mul (Int.le_refl (countL (l.take i))) h2 (by omega) (by omega)
  simpa using this
theorem countR_snoc {l : List Vr} {i : Nat} (h : i < l.length) : countL (l.take (i + 1)) = countL (l.take i) * l[i].span := by
  rw [List.take_succ_eq_append_getElem h, countR_app]
  simp [countL]
theorem countL_upto {l : List Vr} {i : Nat} (h : ∀ j (h : j < l.length), j < i → l[j].Ok) : 1 ≤ countL (l.take i) := by
  refine countR_pos fun v hv => ?_
  obtain ⟨j, hj, rfl⟩ := List.mem_take_iff_getElem.1 hv
  exact h j (by omega) (by omega)
theorem VarsG.upto {l : List Vr} (h : VarsG l) (i : Nat) : countL (l.take i) ≤ 4096 := Int.le_trans (countR_take h.ok i).2 h.count
set_option maxRecDepth 100000 in
set_option maxHeartbeats 8000000 in
theorem varsR_any (v : Value) (l : List Vr) (w : World) (h : IsVars w v l) :
    Calls Tryz.prog 57 #[v] w fun e w' => ∃ c : Int, e = .returned (.int .i64 c) ∧ (c = 0 ↔ VarsG l) ∧ Ext w w' := by
  obtain ⟨a, c, rfl, hmax, b, off, ha, hcells⟩ := h.at
  have HA := Lib.hid ha
  have HC := Lib.hid hcells
  have hmm := @run_makeMap Tryz.prog
  have HBAD := Lib.hid fun (c : Int) (w' : World) (h0 : c ≠ 0) (hb : ¬ VarsG l) (hE : Ext w w') => (show ∃ d : Int, Ending.returned (.int .i64 c) = .returned (.int .i64 d) ∧ (d = 0 ↔ VarsG l) ∧ Ext w w' from ⟨c, rfl, ⟨fun h => absurd h h0, fun h => absurd h hb⟩, hE⟩)
  clear h ha hcells
  go_enter Tryz.func57, Tryz.ntmps57
  by_cases h6 : 6 < l.length
  · have h6I : (6 : Int) < (l.length : Int) := by omega
    clear hmm
    go_wp2
    go_ret
    exact HBAD.out 1 _ (by omega) (fun h => by have := h.six; omega) (Ext.refl w)
  have h6I : ¬ (6 : Int) < (l.length : Int) := by omega
  go_wp2_with fail
  have hm0 := MapG.new encS w
  have HM0 := Lib.hid hm0
  have HE0 := Lib.hid (ext_al (Ext.refl w) (Obj.map #[] 0))
  clear hm0 hmm h6I
  go_loopg [4, 15] l.length (fun m x y wr => ∃ i : Nat, m + i = l.length ∧ y = .int .i64 (i : Int) ∧ x = .int .i64 (countL (l.take i)) ∧ Ext w wr ∧ MapG encS wr w.heap.size (seenL ((l.take i).map (·.name))) ∧ ((l.map (·.name)).take i).Nodup ∧ (∀ j (h : j < l.length), j < i → l[j].Ok) ∧ countL (l.take i) ≤ 4096)
  case atStart => exact ⟨0, by omega, by go_num, rfl, HE0.out, HM0.out, by simp, fun j h hj => by omega, by simp [countL]⟩
  case round =>
    obtain ⟨i, hm, rfl, rfl, hE, hM, hnd, hoks, hct4⟩ := hrel
    have HM := Lib.hid hm
    have HND := Lib.hid hnd
    have HOKS := Lib.hid hoks
    have HC4 := Lib.hid hct4
    clear hnd hm HM0 HE0 hoks hct4
    by_cases hi : i < l.length
    · obtain rfl := HA.out (by omega)
      obtain ⟨c0, c1, c2, c3⟩ := HC.out i hi
      have c0 := cell_later hE c0
      have c1 := cell_later hE c1
      have c2 := cell_later hE c2
      have c3 := cell_later hE c3
      have HCS := Lib.hid (countR_snoc hi)
      have HTI := Lib.hid (show ((l.take (i + 1)).map (·.name)) = (l.take i).map (·.name) ++ [l[i].name] by rw [List.take_succ_eq_append_getElem hi, List.map_append, List.map_cons, List.map_nil])
      have HTM := Lib.hid (show (l.map (·.name)).take i = (l.take i).map (·.name) by rw [List.map_take])
      have HLI := Lib.hid (show ∀ (h : i < (l.map (·.name)).length), (l.map (·.name))[i] = l[i].name from fun h => by simp)
      have HNM := Lib.hid (name_all l[i].name (wr.alloc (Obj.cells (vrc l[i]).toArray 43)))
      have HNB := Lib.hid (show nameB l[i].name = true ↔ NameOk l[i].name by unfold nameB; simp)
      have HOK := Lib.hid fun (h : VarsG l) => h.ok l[i] (by simp)
      have HOKN := Lib.hid fun (h : l[i].Ok) => all_more (p := Vr.Ok) hi HOKS.out h
      have HUP := Lib.hid fun (h : VarsG l) => h.upto (i + 1)
      have hiI : (i : Int) < (l.length : Int) := by omega
      have hi0 : (0 : Int) ≤ (i : Int) := by omega
      have hx := ext_al (Ext.refl wr) (Obj.cells (vrc l[i]).toArray 43)
      have hbk := blk_new wr (Obj.cells (vrc l[i]).toArray 43)
      simp only [vrc] at HNM hx hbk
      have HBK := Lib.hid hbk
      have HMX := Lib.hid (hM.ext hx)
      have HEX := Lib.hid (hE.trans hx)
      have HWR := Lib.hid hM.lt
      have HUN := Lib.hid (countL_upto HOKS.out)
      clear hM hE hx hbk
      generalize nameB l[i].name = nb at *
      go_wp2_with fail
      refine HNM.out.mono ?_
      rintro e w2 ⟨rfl, hE2⟩
      cases nb
      · have HE2 := Lib.hid (HEX.out.trans hE2)
        clear hE2 c0 c1 c2 c3
        go_wp2
        go_ret
        exact HBAD.out 6 _ (by omega) (fun h => by have := HNB.out.2 (HOK.out h).name; cases this) HE2.out
      have HNOK := Lib.hid (HNB.out.1 rfl)
      have hbk := blk_ext HBK.out hE2
      have d0 := blk_cell hbk (i := 0) rfl
      have d1 := blk_cell hbk (i := 1) rfl
      have d2 := blk_cell hbk (i := 2) rfl
      have d3 := blk_cell hbk (i := 3) rfl
      have HM2 := Lib.hid (HMX.out.ext hE2)
      have HE2 := Lib.hid (HEX.out.trans hE2)
      have HBK2 := Lib.hid hbk
      clear hE2 hbk c0 c1 c2 c3 HMX HEX HBK HNM
      by_cases hin : l[i].name ∈ (l.take i).map (·.name)
      · have hno : ¬ (l.map (·.name)).Nodup := nodup_not (i := i) (by simpa using hi) (by rw [HLI.out, HTM.out]; exact hin)
        have HNO := Lib.hid hno
        have HIN := Lib.hid (seen_some hin)
        clear hin hno
        go_wp2_with (refine wpl_lookup_g Tryz.keyS Tryz.underlying142 rfl rfl HM2.out rfl rfl HIN.out ?_)
        clear d0 d1 d2 d3
        go_wp2
        go_ret
        exact HBAD.out 7 _ (by omega) (fun h => HNO.out h.nodup) (ext_al HE2.out _)
      · have HIN := Lib.hid (seen_none hin)
        have hnd2 := nodup_take (i := i) (l := l.map (·.name)) (by simpa using hi) HND.out (by rw [HLI.out, HTM.out]; exact hin)
        have HND2 := Lib.hid hnd2
        have hx3 := ext_al (Ext.refl w2) (Obj.cells #[] 143)
        have e0 := cell_later hx3 d0
        have HX3 := Lib.hid hx3
        have hlt := blk_lt HBK2.out
        have hwl := HM2.out.lt
        have hmw : ¬ wr.heap.size = w.heap.size := by have := HWR.out; omega
        clear hin hnd2 hx3 d1 d2 d3
        go_wp2_with (first
          | (refine wpl_lookup_gn Tryz.keyS Tryz.underlying142 rfl rfl HM2.out rfl rfl (Tryz.zeroU _) HIN.out ?_)
          | (at_mapUpdate; go_must (refine wpl_update_g Tryz.keyS Tryz.underlying142 rfl rfl (HM2.out.ext HX3.out) rfl rfl HIN.out ?_)))
        intro w3 hm3 hg3 hs3
        have hbk := blk_grown (blk_ext HBK2.out HX3.out) hg3 (by intro e; injection e with e; exact hmw e)
        have hE3 : Ext w w3 := Below.grown (HE2.out.trans HX3.out) hg3 (HE2.out.trans HX3.out).size (fun b hb => by injection hb with hb; omega)
        have d1 := blk_cell hbk (i := 1) rfl
        have d2 := blk_cell hbk (i := 2) rfl
        have d3 := blk_cell hbk (i := 3) rfl
        rw [seen_snoc] at hm3
        have HM3 := Lib.hid hm3
        have HE3 := Lib.hid hE3
        have HVS := Lib.hid (show l[i].span = l[i].high - l[i].low + 1 from rfl)
        clear hm3 hE3 hg3 hs3 hbk e0 d0
        generalize l[i] = x at *
        obtain ⟨nm, lo, hgh, ini⟩ := x
        simp only at d1 d2 d3 HVS
        by_cases p1 : lo < -1000
        · go_wp2
          go_ret
          exact HBAD.out 2 _ (by omega) (fun h => by have := (HOK.out h).low; simp only at this; omega) HE3.out
        by_cases p2 : (1000 : Int) < hgh
        · go_wp2
          go_ret
          exact HBAD.out 2 _ (by omega) (fun h => by have := (HOK.out h).high; simp only at this; omega) HE3.out
        by_cases p3 : hgh < lo
        · go_wp2
          go_ret
          exact HBAD.out 2 _ (by omega) (fun h => by have h1 := (HOK.out h).i0; have h2 := (HOK.out h).i1; simp only at h1 h2; omega) HE3.out
        by_cases p4 : ini < lo
        · go_wp2
          go_ret
          exact HBAD.out 2 _ (by omega) (fun h => by have h1 := (HOK.out h).i0; simp only at h1; omega) HE3.out
        by_cases p5 : hgh < ini
        · go_wp2
          go_ret
          exact HBAD.out 2 _ (by omega) (fun h => by have h1 := (HOK.out h).i1; simp only at h1; omega) HE3.out
        have pw : IntKind.i64.wrap (hgh - lo) = hgh - lo := IntWalk.i64_in _ (by omega)
        by_cases p6 : (64 : Int) ≤ hgh - lo
        · go_wp2
          go_ret
          exact HBAD.out 1 _ (by omega) (fun h => by have h1 := (HOK.out h).sp; simp only at h1; omega) HE3.out
        have HXO := Lib.hid (show (Vr.mk nm lo hgh ini).Ok from ⟨HNOK.out, by simp only; omega, by simp only; omega, by simp only; omega, by simp only; omega, by simp only; omega⟩)
        have hu1 := HUN.out
        have hu4 := HC4.out
        have p7 := HCS.out
        rw [HVS.out] at p7
        have hlin : countL (l.take (i + 1)) ≤ 4096 * 64 ∧ 0 ≤ countL (l.take (i + 1)) := by
          rw [p7]
          constructor
          · exact Int.mul_le_mul hu4 (by omega) (by omega) (by omega)
          · exact Int.mul_nonneg (by omega) (by omega)
        have p9 : IntKind.i64.wrap (countL (l.take i) * (hgh - lo + 1)) = countL (l.take (i + 1)) := by rw [← p7]; exact IntWalk.i64_in _ (by omega)
        clear p7 hu1 hu4
        by_cases p8 : (4096 : Int) < countL (l.take (i + 1))
        · go_wp2
          go_ret
          exact HBAD.out 1 _ (by omega) (fun h => by have h1 := HUP.out h; omega) HE3.out
        go_wp2_with fail
        go_roundg (gk - 1)
        case measure => have := HM.out; omega
        case rel => exact ⟨i + 1, by have := HM.out; omega, by go_num, rfl, HE3.out, by rw [HTI.out, ← HTM.out]; exact HM3.out, HND2.out, HOKN.out HXO.out, by omega⟩
    · have hil : i = l.length := by have := HM.out; omega
      have hnd : (l.map (·.name)).Nodup := by
        have := HND.out
        rw [hil, List.take_of_length_le (by simp)] at this
        exact this
      have hall := all_upto (p := Vr.Ok) hil HOKS.out
      have hcc := HC4.out
      rw [hil, List.take_length] at hcc
      have HGD := Lib.hid (show VarsG l from ⟨by omega, hall, hnd, hcc⟩)
      have HEX := Lib.hid hE
      have hiI : ¬ (i : Int) < (l.length : Int) := by omega
      clear hM hE hnd hil hall hcc
      go_wp2
      go_ret
      exact ⟨0, rfl, ⟨fun _ => HGD.out, fun _ => rfl⟩, HEX.out⟩
end Go.Proofs.YtfcaomejbcjfgaaGreatDoor

namespace Go.Proofs.YtfcaomejbcjfgaaGreatDoor
open Go Go.RowKit
theorem Tm.kinds : ∀ {t : Tm}, t.ok → ∀ o ∈ t.flat, o.1 ≤ 18
  | .n0 k v, h, o, ho => by simp [Tm.flat] at ho; subst ho; exact h.2.1
  | .n1 k v a, h, o, ho => by
    rcases List.mem_cons.1 ho with e | ho
    · subst e; exact h.2.1
    · exact Tm.kinds h.2.2.2 o ho
  | .n2 k v a b, h, o, ho => by
    rcases List.mem_cons.1 ho with e | ho
    · subst e; exact h.2.1
    · rcases List.mem_append.1 ho with ho | ho
      · exact Tm.kinds h.2.2.2.1 o ho
      · exact Tm.kinds h.2.2.2.2 o ho
theorem endsL_kinds {l : List Op2} {es : List Int} (h : endsL l = .ok es) : ∀ o ∈ l, o.1 ≤ 18 := by
  obtain ⟨t, h1, h2, _⟩ := ends_parse l es h
  intro o ho
  rw [← h2] at ho
  exact Tm.kinds h1 o ho
theorem cntA_len : ∀ l : List Op2, cntA l ≤ l.length
  | [] => by simp [cntA]
  | o :: l => by have := cntA_len l; simp only [cntA, List.length_cons]; split <;> omega
set_option maxRecDepth 100000 in
set_option maxHeartbeats 4000000 in
theorem lcheckR_any (v : Value) (l : List Op2) (props : Int) (w : World) (h : Ops w v l) (ht : Tab w) :
    Calls Tryz.prog 28 #[v, .int .i64 props] w fun e w' => ∃ c : Int, e = .returned (.int .i64 c) ∧ (c = 0 ↔ FormG props l) ∧ Ext w w' := by
  have HBAD := Lib.hid fun (c : Int) (w' : World) (h0 : c ≠ 0) (hb : ¬ FormG props l) (hE : Ext w w') => (show ∃ d : Int, Ending.returned (.int .i64 c) = .returned (.int .i64 d) ∧ (d = 0 ↔ FormG props l) ∧ Ext w w' from ⟨c, rfl, ⟨fun h => absurd h h0, fun h => absurd h hb⟩, hE⟩)
  have HH := Lib.hid (ends_any v l w h ht)
  obtain ⟨a, cap, rfl, hr⟩ := h
  have HR := Lib.hid hr
  clear hr ht
  go_enter Tryz.func28, Tryz.ntmps28
  by_cases q1 : props < 0
  · clear HH
    go_wp2
    go_ret
    exact HBAD.out 2 _ (by omega) (fun h => by have := h.p0; omega) (Ext.refl w)
  by_cases q2 : 6 < props
  · clear HH
    go_wp2
    go_ret
    exact HBAD.out 2 _ (by omega) (fun h => by have := h.p6; omega) (Ext.refl w)
  go_wp2_with fail
  refine HH.out.mono ?_
  rintro e w1 ⟨hE1, hres⟩
  have HE1 := Lib.hid hE1
  clear hE1 HH
  cases hen : endsL l with
  | error c =>
    rw [hen] at hres
    simp only at hres
    subst hres
    have hc0 := endsL_err l hen
    have hcb : (c != 0) = true := by rw [bne_iff_ne]; exact hc0
    have HC0 := Lib.hid hc0
    have HEN := Lib.hid hen
    clear hen hc0
    go_wp2
    go_ret
    exact HBAD.out c _ HC0.out (fun h => by obtain ⟨es, he⟩ := h.ends; rw [HEN.out] at he; cases he) HE1.out
  | ok es =>
    rw [hen] at hres
    simp only at hres
    obtain ⟨v1, rfl, hown⟩ := hres
    obtain ⟨a1, c1, rfl, _⟩ := hown.row
    have hll := endsL_len hen
    have HKD := Lib.hid (endsL_kinds hen)
    have HEN := Lib.hid hen
    clear hown hen
    go_wp2_with fail
    go_loopg [7, 27] l.length (fun m y x wr => ∃ i : Nat, m + i = l.length ∧ x = .int .i64 (i : Int) ∧ y = .int .i64 (cntA (l.take i) : Int) ∧ Ext w wr ∧ ∀ j (h : j < l.length), j < i → FitOp props l[j])
    case atStart => exact ⟨0, by omega, by go_num, by simp [cntA], HE1.out, fun j h hj => by omega⟩
    case round =>
      obtain ⟨i, hmi, rfl, rfl, hE, hfits⟩ := hrel
      have HMI := Lib.hid hmi
      have HE := Lib.hid hE
      have HFI := Lib.hid hfits
      by_cases hi : i < l.length
      · obtain ⟨b, off, ha, hc⟩ := (HR.out.ext hE).ops
        obtain rfl := ha hll.1
        obtain ⟨k1, k2⟩ := hc i hi
        have HCN := Lib.hid (cntA_take l hi)
        have hle : cntA (l.take i) ≤ 60 := by have := cntA_len (l.take i); have : (l.take i).length ≤ l.length := by simp; omega
                                              omega
        have hiI : (i : Int) < (l.length : Int) := by omega
        have hi0 : (0 : Int) ≤ (i : Int) := by omega
        have HFO := Lib.hid fun wx => fits_any l[i] props wx
        have HAF := Lib.hid fun wx => ah_fn l[i].1 wx
        have HK18 := Lib.hid (HKD.out l[i] (by simp))
        have HNF := Lib.hid fun (h : FormG props l) => h.fit l[i] (by simp)
        have HFM := Lib.hid fun (h : FitOp props l[i]) => all_more (p := FitOp props) hi HFI.out h
        clear hc ha hE hmi hfits
        generalize l[i] = o at *
        generalize hcn : cntA (l.take i) = n at *
        have HN := Lib.hid hcn
        clear hcn
        have q0 := blk_new wr (Obj.cells #[.int .i64 o.1, .int .i64 o.2] 79)
        have HQ := Lib.hid q0
        clear q0
        go_wp2_with fail
        refine (HFO.out _).mono ?_
        rintro e w3 ⟨c, rfl, hcz, hE3⟩
        have q3 := blk_ext HQ.out hE3
        have q30 := blk_cell q3 (i := 0) rfl
        have HE3 := Lib.hid (Ext.trans (ext_al HE.out (Obj.cells #[.int .i64 o.1, .int .i64 o.2] 79)) hE3)
        have HCZ := Lib.hid hcz
        clear q3 hE3 hcz
        by_cases hc0 : c = 0
        · have HFT := Lib.hid (show FitOp props o from by obtain ⟨p1, p2, p3⟩ := HCZ.out.1 hc0; exact ⟨p1, HK18.out, p2, p3⟩)
          subst hc0
          go_wp2_with fail
          refine (HAF.out _).mono ?_
          rintro e wq ⟨rfl, rfl⟩
          have hcn2 := HCN.out
          cases hah : aheadB o.1
          · rw [hah] at hcn2
            have HC2 := Lib.hid hcn2
            clear hcn2 hah
            go_wp2_with fail
            go_roundg (gk - 1)
            case measure => have := HMI.out; omega
            case rel => exact ⟨i + 1, by have := HMI.out; omega, by go_num, by rw [HC2.out]; rfl, HE3.out, HFM.out HFT.out⟩
          · rw [hah] at hcn2
            have HC2 := Lib.hid hcn2
            clear hcn2 hah
            go_wp2_with fail
            go_roundg (gk - 1)
            case measure => have := HMI.out; omega
            case rel => exact ⟨i + 1, by have := HMI.out; omega, by go_num, by rw [HC2.out]; go_num, HE3.out, HFM.out HFT.out⟩
        · have hcb : (c != 0) = true := by rw [bne_iff_ne]; exact hc0
          have HC0 := Lib.hid hc0
          clear hc0 q30
          go_wp2
          go_ret
          exact HBAD.out c _ HC0.out (fun h => HC0.out (HCZ.out.2 (by obtain ⟨p1, _, p2, p3⟩ := HNF.out h; exact ⟨p1, p2, p3⟩))) HE3.out
      · have hiI : ¬ (i : Int) < (l.length : Int) := by omega
        have hin : i = l.length := by omega
        have HALL := Lib.hid (all_upto (p := FitOp props) hin HFI.out)
        have HTK := Lib.hid (show cntA (l.take i) = cntA l by rw [hin, List.take_length])
        clear hin hE hfits hmi
        by_cases hc6 : (6 : Int) < (cntA (l.take i) : Int)
        · have HC6 := Lib.hid hc6
          generalize cntA (l.take i) = n at *
          go_wp2
          go_ret
          exact HBAD.out 1 _ (by omega) (fun h => by have := h.cnt; have := HTK.out; have := HC6.out; omega) HE.out
        · have HC6 := Lib.hid (show cntA (l.take i) ≤ 6 by omega)
          generalize cntA (l.take i) = n at *
          go_wp2
          go_ret
          exact ⟨0, rfl, ⟨fun _ => ⟨by omega, by omega, ⟨es, HEN.out⟩, HALL.out, by have := HTK.out; have := HC6.out; omega⟩, fun _ => rfl⟩, HE.out⟩
set_option maxRecDepth 100000 in
set_option maxHeartbeats 8000000 in
theorem ruleR_any (g sv : Value) (r : Rr) (n : Int) (w : World) (hg : Ops w g r.guard) (hs : IsSetR w sv r.sets) (ht : Tab w) (h0 : 0 ≤ n) (h6 : n ≤ 6) :
    Calls Tryz.prog 58 #[.agg #[g, sv], .int .i64 n] w fun e w' => ∃ c : Int, e = .returned (.int .i64 c) ∧ (c = 0 ↔ RuleG n r) ∧ Ext w w' := by
  have HBAD := Lib.hid fun (c : Int) (w' : World) (h0 : c ≠ 0) (hb : ¬ RuleG n r) (hE : Ext w w') => (show ∃ d : Int, Ending.returned (.int .i64 c) = .returned (.int .i64 d) ∧ (d = 0 ↔ RuleG n r) ∧ Ext w w' from ⟨c, rfl, ⟨fun h => absurd h h0, fun h => absurd h hb⟩, hE⟩)
  have HOKK := Lib.hid fun (w' : World) (h1 : r.sets.length ≤ 6) (h2 : KindG r.guard n true) (h3 : ∀ s ∈ r.sets, 0 ≤ s.1 ∧ s.1 < n ∧ KindG s.2 n false) (h4 : (r.sets.map (·.1)).Nodup) (hE : Ext w w') => (show ∃ d : Int, Ending.returned (.int .i64 0) = .returned (.int .i64 d) ∧ (d = 0 ↔ RuleG n r) ∧ Ext w w' from ⟨0, rfl, ⟨fun _ => ⟨h1, h2, h3, h4⟩, fun _ => rfl⟩, hE⟩)
  have HG1 := Lib.hid fun (h : RuleG n r) => h.six
  have HG2 := Lib.hid fun (h : RuleG n r) => h.guard
  have HG3 := Lib.hid fun (h : RuleG n r) => h.sets
  have HG4 := Lib.hid fun (h : RuleG n r) => h.nodup
  obtain ⟨a, c, rfl, _, b, off, ha, hcells⟩ := hs.at
  have HKG := Lib.hid fun wx (hx : Ext w wx) => kindR_any g r.guard n true wx (hg.ext hx) (ht.ext hx) h0 h6
  have HA := Lib.hid ha
  have HC := Lib.hid hcells
  have HT := Lib.hid ht
  obtain ⟨ag, cg, rfl⟩ := hg.val
  have hmm := @run_makeMap Tryz.prog
  clear hs ha hcells ht hg
  generalize r.guard.length = ng at *
  generalize r.guard = gl at *
  generalize RuleG n r = RG at *
  generalize r.sets = l at *
  go_enter Tryz.func58, Tryz.ntmps58
  have hbk := blk_new w (Obj.cells #[.slice ag ng cg, .slice a l.length c] 46)
  have HE := Lib.hid (ext_al (Ext.refl w) (Obj.cells #[.slice ag ng cg, .slice a l.length c] 46))
  have HB := Lib.hid hbk
  clear hbk
  by_cases hl6 : (6 : Int) < (l.length : Int)
  · clear hmm HKG
    go_wp2
    go_ret
    exact HBAD.out 1 _ (by omega) (fun h => by have := HG1.out h; omega) HE.out
  go_wp2_with fail
  generalize w.alloc (Obj.cells #[.slice ag ng cg, .slice a l.length c] 46) = W1 at *
  refine (HKG.out _ HE.out).mono ?_
  rintro e w2 ⟨kr, rfl, hkr, hE2⟩
  have hbk := blk_ext HB.out hE2
  have d1 := blk_cell hbk (i := 1) (v := .slice a l.length c) rfl
  have HE2 := Lib.hid (HE.out.trans hE2)
  have HKR := Lib.hid hkr
  clear hbk hE2 HKG HB HE hkr
  by_cases hk0 : kr = 0
  case neg =>
    have hkb : (kr != 0) = true := by rw [bne_iff_ne]; exact hk0
    have HK0 := Lib.hid hk0
    clear d1 hk0 hmm
    go_wp2
    go_ret
    exact HBAD.out kr _ HK0.out (fun h => HK0.out (HKR.out.2 (HG2.out h))) HE2.out
  case pos =>
    have HKD := Lib.hid (HKR.out.1 hk0)
    subst hk0
    have d2 := cell_later (ext_al (Ext.refl w2) (Obj.map #[] 0)) d1
    go_wp2_with fail
    clear d1 d2 hmm
    have HM0 := Lib.hid (MapG.new encI w2)
    have HE0 := Lib.hid (HE2.out.trans (ext_al (Ext.refl w2) (Obj.map #[] 0)))
    go_loopg [27] l.length (fun m y wr => ∃ i : Nat, m + i = l.length ∧ y = .int .i64 (i : Int) ∧ Ext w wr ∧ MapG encI wr w2.heap.size (seenL ((l.map (·.1)).take i)) ∧ ((l.map (·.1)).take i).Nodup ∧ ∀ j (h : j < l.length), j < i → (0 ≤ l[j].1 ∧ l[j].1 < n ∧ KindG l[j].2 n false))
    case atStart => exact ⟨0, by omega, by go_num, HE0.out, HM0.out, by simp, fun j h hj => by omega⟩
    case round =>
      obtain ⟨i, hm, rfl, hE, hM, hnd, hes⟩ := hrel
      have HM := Lib.hid hm
      have HND := Lib.hid hnd
      have HES := Lib.hid hes
      clear hnd hm HM0 HE0 hes
      by_cases hi : i < l.length
      · obtain rfl := HA.out (by omega)
        obtain ⟨u, c0, c1, hu⟩ := HC.out i hi
        have c0 := cell_later hE c0
        have c1 := cell_later hE c1
        have HKV := Lib.hid fun wx (hx : Ext w wx) => kindR_any u l[i].2 n false wx (hu.ext hx) (HT.out.ext hx) h0 h6
        have HSI := Lib.hid fun (h : RG) => HG3.out h l[i] (by simp)
        have HMO := Lib.hid fun (h : 0 ≤ l[i].1 ∧ l[i].1 < n ∧ KindG l[i].2 n false) => all_more (p := fun s : Int × List Op2 => 0 ≤ s.1 ∧ s.1 < n ∧ KindG s.2 n false) hi HES.out h
        obtain ⟨au, cu, rfl⟩ := hu.val
        have HLI := Lib.hid (show (l.map (·.1))[i]? = some l[i].1 by rw [List.getElem?_map, List.getElem?_eq_getElem hi]; rfl)
        have hil : i < (l.map (·.1)).length := by simpa using hi
        have HLE := Lib.hid (show (l.map (·.1))[i] = l[i].1 by simp)
        have hiI : (i : Int) < (l.length : Int) := by omega
        have hi0 : (0 : Int) ≤ (i : Int) := by omega
        generalize l[i].2.length = nu at *
        have hx := ext_al (Ext.refl wr) (Obj.cells #[.int .i64 l[i].1, .slice au nu cu] 49)
        have hbk := blk_new wr (Obj.cells #[.int .i64 l[i].1, .slice au nu cu] 49)
        have e0 := blk_cell hbk (i := 0) (v := .int .i64 l[i].1) rfl
        have hwM := hM.lt
        have HMX := Lib.hid (hM.ext hx)
        have HEX := Lib.hid (hE.trans hx)
        have HBK := Lib.hid hbk
        have hx3 := ext_al (Ext.refl (wr.alloc (Obj.cells #[.int .i64 l[i].1, .slice au nu cu] 49))) (Obj.cells #[] 143)
        have HX3 := Lib.hid hx3
        have e1 := cell_later hx3 e0
        have hmw : ¬ wr.heap.size = w2.heap.size := by omega
        have hw2 := HE2.out.size
        clear hM hE hx hbk hu hx3
        by_cases q1 : l[i].1 < 0
        · clear e0 e1
          go_wp2
          go_ret
          exact HBAD.out 2 _ (by omega) (fun h => by have := HSI.out h; omega) HEX.out
        by_cases q2 : n ≤ l[i].1
        · clear e0 e1
          go_wp2
          go_ret
          exact HBAD.out 2 _ (by omega) (fun h => by have := HSI.out h; omega) HEX.out
        by_cases hin : l[i].1 ∈ (l.map (·.1)).take i
        · have hno : ¬ (l.map (·.1)).Nodup := nodup_not hil (by rw [HLE.out]; exact hin)
          have HNO := Lib.hid hno
          have HIN := Lib.hid (seen_some hin)
          clear hin hno
          go_wp2_with (refine wpl_lookup_g Tryz.keyI Tryz.underlying145 rfl rfl HMX.out rfl rfl HIN.out ?_)
          go_ret
          exact HBAD.out 7 _ (by omega) (fun h => HNO.out (HG4.out h)) (HEX.out.trans HX3.out)
        · have HIN := Lib.hid (seen_none hin)
          have HND2 := Lib.hid (nodup_take hil HND.out (by rw [HLE.out]; exact hin))
          clear hin
          go_wp2_with (first
            | (refine wpl_lookup_gn Tryz.keyI Tryz.underlying145 rfl rfl HMX.out rfl rfl (Tryz.zeroU _) HIN.out ?_)
            | (at_mapUpdate; go_must (refine wpl_update_g Tryz.keyI Tryz.underlying145 rfl rfl (HMX.out.ext HX3.out) rfl rfl HIN.out ?_)))
          intro w3 hm3 hg3 hs3
          have hbk := blk_grown (blk_ext HBK.out HX3.out) hg3 (by intro e; injection e with e; exact hmw e)
          have hE3 : Ext w w3 := Below.grown (HEX.out.trans HX3.out) hg3 (HEX.out.trans HX3.out).size (fun b hb => by injection hb with hb; omega)
          have d1 := blk_cell hbk (i := 1) (v := .slice au nu cu) rfl
          rw [seen_snoc] at hm3
          have HM3 := Lib.hid hm3
          have HKV2 := Lib.hid (HKV.out _ hE3)
          have HE3 := Lib.hid hE3
          have HTI := Lib.hid (show (l.map (·.1)).take (i + 1) = (l.map (·.1)).take i ++ [l[i].1] by rw [List.take_succ_eq_append_getElem hil, HLE.out])
          clear hm3 hE3 hg3 hs3 hbk e0 e1 c0 c1
          go_wp2_with fail
          refine HKV2.out.mono ?_
          rintro e w4 ⟨kc, rfl, hkc, hE4⟩
          have HM4 := Lib.hid (HM3.out.ext hE4)
          have HE4 := Lib.hid (HE3.out.trans hE4)
          have HKC := Lib.hid hkc
          clear hE4 d1 hkc
          by_cases hk0 : kc = 0
          · have HEL := Lib.hid (HMO.out ⟨by omega, by omega, HKC.out.1 hk0⟩)
            subst hk0
            go_wp2_with fail
            go_roundg (gk - 1)
            case measure => have := HM.out; omega
            case rel => exact ⟨i + 1, by have := HM.out; omega, by go_num, HE4.out, by rw [HTI.out]; exact HM4.out, HND2.out, HEL.out⟩
          · have hkb : (kc != 0) = true := by rw [bne_iff_ne]; exact hk0
            have HK0 := Lib.hid hk0
            clear hk0
            go_wp2
            go_ret
            exact HBAD.out kc _ HK0.out (fun h => HK0.out (HKC.out.2 (HSI.out h).2.2)) HE4.out
      · have hil : i = l.length := by have := HM.out; omega
        have hnd : (l.map (·.1)).Nodup := by
          have := HND.out
          rw [List.take_of_length_le (by simp; omega)] at this
          exact this
        have HNO := Lib.hid hnd
        have HEX := Lib.hid hE
        have HALL := Lib.hid (all_upto (p := fun s : Int × List Op2 => 0 ≤ s.1 ∧ s.1 < n ∧ KindG s.2 n false) hil HES.out)
        have hiI : ¬ (i : Int) < (l.length : Int) := by omega
        clear hM hE hnd hil
        go_wp2
        go_ret
        exact HOKK.out _ (by omega) HKD.out HALL.out HNO.out HEX.out
end Go.Proofs.YtfcaomejbcjfgaaGreatDoor

namespace Go.Proofs.YtfcaomejbcjfgaaGreatDoor
open Go Go.RowKit
set_option maxRecDepth 100000 in
set_option maxHeartbeats 4000000 in
theorem mcheckR_any (vv rv : Value) (vs : List Vr) (rs : List Rr) (w : World) (hv : IsVars w vv vs) (hr : IsRulR w rv rs) (ht : Tab w) :
    Calls Tryz.prog 42 #[.agg #[vv, rv]] w fun e w' => ∃ c : Int, e = .returned (.int .i64 c) ∧ (c = 0 ↔ ModG vs rs) ∧ Ext w w' := by
  have HBAD := Lib.hid fun (c : Int) (w' : World) (h0 : c ≠ 0) (hb : ¬ ModG vs rs) (hE : Ext w w') => (show ∃ d : Int, Ending.returned (.int .i64 c) = .returned (.int .i64 d) ∧ (d = 0 ↔ ModG vs rs) ∧ Ext w w' from ⟨c, rfl, ⟨fun h => absurd h h0, fun h => absurd h hb⟩, hE⟩)
  have HOKK := Lib.hid fun (w' : World) (h1 : VarsG vs) (h2 : rs.length ≤ 12) (h3 : ∀ r ∈ rs, RuleG vs.length r) (hE : Ext w w') => (show ∃ d : Int, Ending.returned (.int .i64 0) = .returned (.int .i64 d) ∧ (d = 0 ↔ ModG vs rs) ∧ Ext w w' from ⟨0, rfl, ⟨fun _ => ⟨h1, h2, h3⟩, fun _ => rfl⟩, hE⟩)
  have HG1 := Lib.hid fun (h : ModG vs rs) => h.vars
  have HG2 := Lib.hid fun (h : ModG vs rs) => h.twelve
  have HG3 := Lib.hid fun (h : ModG vs rs) => h.rules
  have HV6 := Lib.hid fun (h : VarsG vs) => h.six
  obtain ⟨av, cv, rfl⟩ := EachL.val hv
  obtain ⟨a, c, rfl, _, b, off, ha, hcells⟩ := hr.at
  have hE0 := ext_al (Ext.refl w) (Obj.cells #[.slice av vs.length cv, .slice a rs.length c] 30)
  have HVA := Lib.hid (varsR_any _ vs _ (hv.ext hE0))
  have HA := Lib.hid ha
  have HC := Lib.hid hcells
  have HT := Lib.hid ht
  have hbk := blk_new w (Obj.cells #[.slice av vs.length cv, .slice a rs.length c] 30)
  have HB := Lib.hid hbk
  have HE := Lib.hid hE0
  clear hv hr ha hcells ht hbk hE0
  generalize ModG vs rs = MG at *
  generalize VarsG vs = VG at *
  generalize vs.length = n at *
  generalize rs = l at *
  go_enter Tryz.func42, Tryz.ntmps42
  go_wp2_with fail
  generalize w.alloc (Obj.cells #[.slice av n cv, .slice a l.length c] 30) = W1 at *
  refine HVA.out.mono ?_
  rintro e w2 ⟨vc, rfl, hvc, hE2⟩
  have hbk := blk_ext HB.out hE2
  have d0 := blk_cell hbk (i := 0) (v := .slice av n cv) rfl
  have d1 := blk_cell hbk (i := 1) (v := .slice a l.length c) rfl
  have HB2 := Lib.hid hbk
  have HE2 := Lib.hid (HE.out.trans hE2)
  have HVC := Lib.hid hvc
  clear hbk hE2 HVA HB HE hvc
  by_cases hv0 : vc = 0
  case neg =>
    have hvb : (vc != 0) = true := by rw [bne_iff_ne]; exact hv0
    have HV0 := Lib.hid hv0
    clear d0 d1 hv0
    go_wp2
    go_ret
    exact HBAD.out vc _ HV0.out (fun h => HV0.out (HVC.out.2 (HG1.out h))) HE2.out
  case pos =>
    have HVG := Lib.hid (HVC.out.1 hv0)
    subst hv0
    have hn6 := HV6.out HVG.out
    by_cases h12 : (12 : Int) < (l.length : Int)
    · clear d0
      go_wp2
      go_ret
      exact HBAD.out 1 _ (by omega) (fun h => by have := HG2.out h; omega) HE2.out
    go_wp2_with fail
    clear d0 d1
    go_loopg [20] l.length (fun m y wr => ∃ i : Nat, m + i = l.length ∧ y = .int .i64 (i : Int) ∧ Ext w2 wr ∧ ∀ j (h : j < l.length), j < i → RuleG n l[j])
    case atStart => exact ⟨0, by omega, by go_num, Ext.refl _, fun j h hj => by omega⟩
    case round =>
      obtain ⟨i, hm, rfl, hE, hno⟩ := hrel
      have HM := Lib.hid hm
      have HNO := Lib.hid hno
      clear hno hm
      by_cases hi : i < l.length
      · obtain rfl := HA.out (by omega)
        obtain ⟨g, s, c0, c1, hg, hs⟩ := HC.out i hi
        have hEW := HE2.out.trans hE
        have c0 := cell_later hEW c0
        have c1 := cell_later hEW c1
        have HMO := Lib.hid fun (h : RuleG n l[i]) => all_more (p := fun r : Rr => RuleG n r) hi HNO.out h
        have HGI := Lib.hid fun (h : MG) => HG3.out h l[i] (by simp)
        obtain ⟨ag, cg, rfl⟩ := hg.val
        obtain ⟨sa, sc, rfl⟩ := EachL.val hs
        have hx := ext_al (Ext.refl wr) (Obj.cells #[.slice ag l[i].guard.length cg, .slice sa l[i].sets.length sc] 46)
        have hRU := ruleR_any _ _ l[i] (n : Int) _ (hg.ext (hEW.trans hx)) (hs.ext (hEW.trans hx)) (HT.out.ext (hEW.trans hx)) (by omega) (by omega)
        have d0 := cell_later (hE.trans hx) (blk_cell HB2.out (i := 0) (v := .slice av n cv) rfl)
        have HRU := Lib.hid hRU
        have HX := Lib.hid (hE.trans hx)
        have hiI : (i : Int) < (l.length : Int) := by omega
        have hi0 : (0 : Int) ≤ (i : Int) := by omega
        clear hE hEW hg hs hx hRU
        generalize RuleG n l[i] = RG at *
        go_wp2_with fail
        refine HRU.out.mono ?_
        rintro e w4 ⟨re, rfl, hre, hE4⟩
        have HE4 := Lib.hid (HX.out.trans hE4)
        have HRE := Lib.hid hre
        clear hE4 d0 c0 c1 HRU HX hre
        by_cases h0 : re = 0
        · have HRG := Lib.hid (HMO.out (HRE.out.1 h0))
          subst h0
          go_wp2_with fail
          go_roundg (gk - 1)
          case measure => have := HM.out; omega
          case rel => exact ⟨i + 1, by have := HM.out; omega, by go_num, HE4.out, HRG.out⟩
        · have h0J : (re != 0) = true := by rw [bne_iff_ne]; exact h0
          have HR0 := Lib.hid h0
          have HEF := Lib.hid (HE2.out.trans HE4.out)
          clear h0
          go_wp2
          go_ret
          exact HBAD.out re _ HR0.out (fun h => HR0.out (HRE.out.2 (HGI.out h))) HEF.out
      · have hil : i = l.length := by have := HM.out; omega
        have HALL := Lib.hid (all_upto (p := fun r : Rr => RuleG n r) hil HNO.out)
        have HEF := Lib.hid (HE2.out.trans hE)
        have hiI : ¬ (i : Int) < (l.length : Int) := by omega
        clear hE hil
        go_wp2
        go_ret
        exact HOKK.out _ HVG.out (by omega) HALL.out HEF.out
set_option maxRecDepth 100000 in
set_option maxHeartbeats 4000000 in
theorem propsR_any (vv rv pv : Value) (vs : List Vr) (rs : List Rr) (P : List (List Op2)) (w : World) (hv : IsVars w vv vs) (hr : IsRulR w rv rs) (hP : IsOpsR w pv P) (ht : Tab w) :
    Calls Tryz.prog 27 #[.agg #[vv, rv], pv] w fun e w' => ∃ c : Int, e = .returned (.int .i64 c) ∧ (c = 0 ↔ PropsG vs rs P) ∧ Ext w w' := by
  have HBAD := Lib.hid fun (c : Int) (w' : World) (h0 : c ≠ 0) (hb : ¬ PropsG vs rs P) (hE : Ext w w') => (show ∃ d : Int, Ending.returned (.int .i64 c) = .returned (.int .i64 d) ∧ (d = 0 ↔ PropsG vs rs P) ∧ Ext w w' from ⟨c, rfl, ⟨fun h => absurd h h0, fun h => absurd h hb⟩, hE⟩)
  have HOKK := Lib.hid fun (w' : World) (h1 : ModG vs rs) (h2 : P.length ≤ 6) (h3 : ∀ p ∈ P, KindG p vs.length true) (hE : Ext w w') => (show ∃ d : Int, Ending.returned (.int .i64 0) = .returned (.int .i64 d) ∧ (d = 0 ↔ PropsG vs rs P) ∧ Ext w w' from ⟨0, rfl, ⟨fun _ => ⟨h1, h2, h3⟩, fun _ => rfl⟩, hE⟩)
  have HG1 := Lib.hid fun (h : PropsG vs rs P) => h.md
  have HG2 := Lib.hid fun (h : PropsG vs rs P) => h.six
  have HG3 := Lib.hid fun (h : PropsG vs rs P) => h.each
  have HV6 := Lib.hid fun (h : ModG vs rs) => h.vars.six
  have HCK := Lib.hid fun wx (hx : Ext w wx) => mcheckR_any vv rv vs rs wx (hv.ext hx) (hr.ext hx) (ht.ext hx)
  obtain ⟨ap, cp, rfl, _, b, off, ha, hcells⟩ := hP.at
  have HT := Lib.hid ht
  obtain ⟨av, cv, rfl⟩ := EachL.val hv
  obtain ⟨a, cr, rfl⟩ := EachL.val hr
  have hbk := blk_new w (Obj.cells #[.slice av vs.length cv, .slice a rs.length cr] 30)
  have HE := Lib.hid (ext_al (Ext.refl w) (Obj.cells #[.slice av vs.length cv, .slice a rs.length cr] 30))
  have HB := Lib.hid hbk
  have HA := Lib.hid ha
  have HC := Lib.hid hcells
  clear hv hr ht hP ha hcells hbk
  generalize PropsG vs rs P = PG at *
  generalize ModG vs rs = MG at *
  generalize rs.length = nr at *
  generalize vs.length = nv at *
  go_enter Tryz.func27, Tryz.ntmps27
  have d0 := blk_cell HB.out (i := 0) (v := .slice av nv cv) rfl
  have d1 := blk_cell HB.out (i := 1) (v := .slice a nr cr) rfl
  go_wp2_with fail
  generalize w.alloc (Obj.cells #[.slice av nv cv, .slice a nr cr] 30) = W1 at *
  refine (HCK.out _ HE.out).mono ?_
  rintro e w2 ⟨mc, rfl, hmc, hE2⟩
  have HB2 := Lib.hid (blk_ext HB.out hE2)
  have HE2 := Lib.hid (HE.out.trans hE2)
  have HMC := Lib.hid hmc
  clear hE2 HCK HB HE d0 d1 hmc
  by_cases hm0 : mc = 0
  case neg =>
    have hmb : (mc != 0) = true := by rw [bne_iff_ne]; exact hm0
    have HM0 := Lib.hid hm0
    clear hm0
    go_wp2
    go_ret
    exact HBAD.out mc _ HM0.out (fun h => HM0.out (HMC.out.2 (HG1.out h))) HE2.out
  have HMG := Lib.hid (HMC.out.1 hm0)
  subst hm0
  have hn6 := HV6.out HMG.out
  by_cases h6 : (6 : Int) < (P.length : Int)
  · go_wp2
    go_ret
    exact HBAD.out 1 _ (by omega) (fun h => by have := HG2.out h; omega) HE2.out
  go_wp2_with fail
  go_loopg [19] P.length (fun k x wr => ∃ i : Nat, k + i = P.length ∧ x = .int .i64 (i : Int) ∧ Ext w2 wr ∧ ∀ j (h : j < P.length), j < i → KindG P[j] nv true)
  case atStart => exact ⟨0, by omega, by go_num, Ext.refl _, fun j h hj => by omega⟩
  case round =>
    obtain ⟨i, hki, rfl, hE, hno⟩ := hrel
    have HK := Lib.hid hki
    have HX := Lib.hid hE
    have HNO := Lib.hid hno
    clear hno
    by_cases hi : i < P.length
    · obtain rfl := HA.out (by omega)
      obtain ⟨u, c0, hu⟩ := HC.out i hi
      have c0 := cell_later (HE2.out.trans hE) c0
      have d0 := blk_cell (blk_ext HB2.out hE) (i := 0) (v := .slice av nv cv) rfl
      have HKC := Lib.hid (kindR_any u P[i] nv true wr (hu.ext (HE2.out.trans hE)) (HT.out.ext (HE2.out.trans hE)) (by omega) (by omega))
      have HMO := Lib.hid fun (h : KindG P[i] nv true) => all_more (p := fun p : List Op2 => KindG p nv true) hi HNO.out h
      have HGI := Lib.hid fun (h : PG) => HG3.out h P[i] (by simp)
      obtain ⟨au, cu, rfl⟩ := hu.val
      have hiI : (i : Int) < (P.length : Int) := by omega
      have hi0 : (0 : Int) ≤ (i : Int) := by omega
      clear hki hE hu
      generalize KindG P[i] nv true = KG at *
      go_wp2_with fail
      refine HKC.out.mono ?_
      rintro e w3 ⟨kc, rfl, hkc, hE3⟩
      have HX3 := Lib.hid (HX.out.trans hE3)
      have HKK := Lib.hid hkc
      clear hE3 c0 d0 HKC hkc
      by_cases h0 : kc = 0
      · have HRG := Lib.hid (HMO.out (HKK.out.1 h0))
        subst h0
        go_wp2_with fail
        go_roundg (gk - 1)
        case measure => have := HK.out; omega
        case rel => exact ⟨i + 1, by have := HK.out; omega, by go_num, HX3.out, HRG.out⟩
      · have h0J : (kc != 0) = true := by rw [bne_iff_ne]; exact h0
        have HR0 := Lib.hid h0
        have HEF := Lib.hid (HE2.out.trans HX3.out)
        clear h0
        go_wp2
        go_ret
        exact HBAD.out kc _ HR0.out (fun h => HR0.out (HKK.out.2 (HGI.out h))) HEF.out
    · have hil : i = P.length := by have := HK.out; omega
      have HALL := Lib.hid (all_upto (p := fun p : List Op2 => KindG p nv true) hil HNO.out)
      have HEF := Lib.hid (HE2.out.trans hE)
      have hiI : ¬ (i : Int) < (P.length : Int) := by omega
      clear hki hE hil
      go_wp2
      go_ret
      exact HOKK.out _ HMG.out (by omega) HALL.out HEF.out
set_option maxRecDepth 100000 in
set_option maxHeartbeats 4000000 in
theorem pcheckR_any (vv rv pv fv : Value) (t : Rt) (w : World) (h : IsRt w vv rv pv fv t) (ht : Tab w) :
    Calls Tryz.prog 12 #[.agg #[vv, rv, pv, fv]] w fun e w' => ∃ c : Int, e = .returned (.int .i64 c) ∧ (c = 0 ↔ TaskG t) ∧ Ext w w' := by
  have HPR := Lib.hid fun wx (hx : Ext w wx) => propsR_any vv rv pv t.vars t.rules t.props wx (h.vars.ext hx) (h.rules.ext hx) (h.props.ext hx) (ht.ext hx)
  have HLC := Lib.hid fun wx (hx : Ext w wx) => lcheckR_any fv t.form (t.props.length : Int) wx (h.form.ext hx) (ht.ext hx)
  have HTG := Lib.hid (show TaskG t ↔ PropsG t.vars t.rules t.props ∧ FormG t.props.length t.form from ⟨fun h => ⟨h.1, h.2⟩, fun h => ⟨h.1, h.2⟩⟩)
  obtain ⟨av, cv, ar, cr, ap, cp, af, cf, rfl, rfl, rfl, rfl⟩ := h.val
  clear h ht
  generalize TaskG t = TG at *
  generalize PropsG t.vars t.rules t.props = PG at *
  generalize FormG t.props.length t.form = FG at *
  generalize t.vars.length = nv at *
  generalize t.rules.length = nr at *
  generalize t.props.length = np at *
  generalize t.form.length = nf at *
  have hb := blk_new w (Obj.cells #[.slice av nv cv, .slice ar nr cr, .slice ap np cp, .slice af nf cf] 34)
  have HE := Lib.hid (ext_al (Ext.refl w) (Obj.cells #[.slice av nv cv, .slice ar nr cr, .slice ap np cp, .slice af nf cf] 34))
  have HB := Lib.hid hb
  have d0 := blk_cell hb (i := 0) rfl
  have d1 := blk_cell hb (i := 1) rfl
  have d2 := blk_cell hb (i := 2) rfl
  clear hb
  go_enter Tryz.func12, Tryz.ntmps12
  go_wp2_with fail
  generalize w.alloc (Obj.cells #[.slice av nv cv, .slice ar nr cr, .slice ap np cp, .slice af nf cf] 34) = W1 at *
  refine (HPR.out _ HE.out).mono ?_
  rintro e w2 ⟨pc, rfl, hpc, hE2⟩
  have HX2 := Lib.hid (HE.out.trans hE2)
  have HPC := Lib.hid hpc
  have d2 := blk_cell (blk_ext HB.out hE2) (i := 2) rfl
  have d3 := blk_cell (blk_ext HB.out hE2) (i := 3) rfl
  clear hE2 d0 d1 hpc
  by_cases hp0 : pc = 0
  case neg =>
    have hpb : (pc != 0) = true := by rw [bne_iff_ne]; exact hp0
    have HP0 := Lib.hid hp0
    clear hp0 d2 d3
    go_wp2
    go_ret
    exact ⟨pc, rfl, ⟨fun h => absurd h HP0.out, fun h => HPC.out.2 (HTG.out.1 h).1⟩, HX2.out⟩
  have HPG := Lib.hid (HPC.out.1 hp0)
  subst hp0
  go_wp2_with fail
  refine (HLC.out _ HX2.out).mono ?_
  rintro e w3 ⟨lc, rfl, hlc, hE3⟩
  have HX3 := Lib.hid (HX2.out.trans hE3)
  have HLL := Lib.hid hlc
  clear hE3 hlc
  go_wp2
  go_ret
  exact ⟨lc, rfl, ⟨fun h => HTG.out.2 ⟨HPG.out, HLL.out.1 h⟩, fun h => HLL.out.2 (HTG.out.1 h).2⟩, HX3.out⟩
end Go.Proofs.YtfcaomejbcjfgaaGreatDoor
