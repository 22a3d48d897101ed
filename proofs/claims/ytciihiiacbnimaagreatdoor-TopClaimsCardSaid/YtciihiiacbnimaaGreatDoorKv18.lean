/- Several texts in one: Follows; FollowA. No condition. -/
import Derived.Test.YtciihiiacbnimaaGreatDoorKv14
import Derived.Test.YtciihiiacbnimaaGreatDoorKv7
import Derived.Deep.RegionHeld3
import Derived.Deep.Cut
namespace Go.Proofs.YtciihiiacbnimaaGreatDoor
open Go.RowKit
def keepV (k : Int) (now next : List Bool) (p s : Nat) : Bool :=
  if k = 14 then now.getD p false == next.getD (p + 1) false
  else if k = 17 then now.getD p false == (now.getD (p + 1) false || next.getD p false)
  else if k = 18 then now.getD p false == (now.getD (p + 1) false && next.getD p false)
  else if k = 15 then now.getD p false == (now.getD s false || (now.getD (p + 1) false && next.getD p false))
  else now.getD p false == (now.getD s false && (now.getD (p + 1) false || next.getD p false))
theorem keepV_eq (k : Int) (es : List Int) (now next : List Bool) (p : Nat) : keepB k es now next p = keepV k now next p (secAt es p) := rfl
set_option maxRecDepth 100000 in
set_option maxHeartbeats 2000000 in
theorem keeps_any (w : World) (a b : Option Addr) (n ca cb : Nat) (A B : List Bool) (k : Int) (p s : Nat) (hA : Row w 1 a n ca (A.map .bool)) (hB : Row w 1 b n cb (B.map .bool)) (hp : p + 1 < n) (hs : k = 15 ∨ k = 16 → s < n) (hk : 14 ≤ k) (hk2 : k ≤ 18) (hn : n ≤ 60) :
    Calls Tryz.prog 68 #[.agg #[.slice a n ca, .slice b n cb], .int .i64 k, .int .i64 (p : Int), .int .i64 (s : Int)] w fun e w' => e = .returned (.bool (keepV k A B p s)) ∧ Ext w w' := by
  have hAl : A.length = n := by have := hA.len; simpa using this
  have hBl : B.length = n := by have := hB.len; simpa using this
  obtain ⟨bA, oA, hA1, hA2⟩ := row_ints hA
  obtain ⟨bB, oB, hB1, hB2⟩ := row_ints hB
  obtain rfl := hA1 (by omega)
  obtain rfl := hB1 (by omega)
  have hx := ext_al (Ext.refl w) (Obj.cells #[.slice (some ⟨bA, oA, none⟩) n ca, .slice (some ⟨bB, oB, none⟩) n cb] 144)
  have hbk := blk_new w (Obj.cells #[.slice (some ⟨bA, oA, none⟩) n ca, .slice (some ⟨bB, oB, none⟩) n cb] 144)
  have p0 := blk_cell hbk (i := 0) (v := .slice (some ⟨bA, oA, none⟩) n ca) rfl
  have p1 := blk_cell hbk (i := 1) (v := .slice (some ⟨bB, oB, none⟩) n cb) rfl
  have a0 := cell_later hx (hA2 p _ (getD_some (by omega)))
  have a1 := cell_later hx (hA2 (p + 1) _ (getD_some (by omega)))
  have b0 := cell_later hx (hB2 p _ (getD_some (by omega)))
  have b1 := cell_later hx (hB2 (p + 1) _ (getD_some (by omega)))
  have HA2 := Lib.hid fun (h : s < n) => cell_later hx (hA2 s _ (getD_some (by omega)))
  have HX := Lib.hid hx
  have hpI : (p : Int) < (n : Int) := by omega
  have hp0 : (0 : Int) ≤ (p : Int) := by omega
  have hw0 : IntKind.i64.wrap ((p : Int) + 1) = (p : Int) + 1 := IntWalk.i64_in _ (by omega)
  have hp1I : (p : Int) + 1 < (n : Int) := by omega
  have hp10 : (0 : Int) ≤ (p : Int) + 1 := by omega
  have hto : ((p : Int) + 1).toNat = p + 1 := by omega
  have hsI : k = 15 ∨ k = 16 → (s : Int) < (n : Int) := fun h => by have := hs h; omega
  have HSI := Lib.hid hsI
  have HS := Lib.hid hs
  have hs0 : (0 : Int) ≤ (s : Int) := by omega
  unfold keepV
  generalize A.getD p false = me at *
  generalize A.getD (p + 1) false = fa at *
  generalize B.getD p false = la at *
  generalize B.getD (p + 1) false = fb at *
  generalize A.getD s false = sa at *
  have hkk : k = 14 ∨ k = 15 ∨ k = 16 ∨ k = 17 ∨ k = 18 := by omega
  clear hA hB hA1 hA2 hB1 hB2 hx hbk hsI hs hk hk2 hAl hBl
  rcases hkk with rfl | rfl | rfl | rfl | rfl
  · clear HA2
    go_enter Tryz.func68, Tryz.ntmps68
    go_wp2_with fail
    go_quiet (fail)
    go_wp2
    go_ret
    exact ⟨rfl, below_drewN HX.out _⟩
  · have sI := HSI.out (.inl rfl)
    have a2 := HA2.out (HS.out (.inl rfl))
    clear HSI HS HA2
    cases sa
    all_goals cases fa
    all_goals
      go_enter Tryz.func68, Tryz.ntmps68
      go_wp2_with fail
      go_quiet (fail)
      go_wp2
      go_ret
      exact ⟨by cases me <;> cases la <;> rfl, below_drewN HX.out _⟩
  · have sI := HSI.out (.inr rfl)
    have a2 := HA2.out (HS.out (.inr rfl))
    clear HSI HS HA2
    cases sa
    all_goals cases fa
    all_goals
      go_enter Tryz.func68, Tryz.ntmps68
      go_wp2_with fail
      go_quiet (fail)
      go_wp2
      go_ret
      exact ⟨by cases me <;> cases la <;> rfl, below_drewN HX.out _⟩
  · clear HA2
    cases fa
    all_goals
      go_enter Tryz.func68, Tryz.ntmps68
      go_wp2_with fail
      go_quiet (fail)
      go_wp2
      go_ret
      exact ⟨by cases me <;> cases la <;> rfl, below_drewN HX.out _⟩
  · clear HA2
    cases fa
    all_goals
      go_enter Tryz.func68, Tryz.ntmps68
      go_wp2_with fail
      go_quiet (fail)
      go_wp2
      go_ret
      exact ⟨by cases me <;> cases la <;> rfl, below_drewN HX.out _⟩
theorem folB_false {l : List Op2} {es : List Int} {now next : List Bool} {i : Nat} (h : folB l es now next i = false) : ∀ m, i ≤ m → folB l es now next m = false
  | 0, hm => by obtain rfl : i = 0 := by omega
                exact h
  | m + 1, hm => by
    by_cases e : i = m + 1
    · subst e; exact h
    · rw [folB, folB_false h m (by omega)]; rfl
end Go.Proofs.YtciihiiacbnimaaGreatDoor

namespace Go.Proofs.YtciihiiacbnimaaGreatDoor
open Go.RowKit
set_option maxRecDepth 100000 in
set_option maxHeartbeats 8000000 in
theorem follows_any (v : Value) (l : List Op2) (t : Tm) (v1 v2 : Value) (L1 L2 : List Bool) (c1 c2 : Nat) (w : World) (h : Ops w v l) (ht : Tab w) (hf : IsF l (L1.length : Int) t) (hL1 : Bools w v1 L1) (hL2 : Bools w v2 L2) (hlen : L2.length = L1.length) (hc1 : c1 < 2 ^ cntA l) (hc2 : c2 < 2 ^ cntA l) :
    Calls Tryz.prog 42 #[v, v1, .int .i64 (c1 : Int), v2, .int .i64 (c2 : Int)] w fun e w' => e = .returned (.tuple #[.bool (folB l (t.ends 0) (tvT L1 c1 t 0) (tvT L2 c2 t 0) l.length), .int .i64 0]) ∧ Ext w w' := by
  have hen := ends_term t hf.ok hf.small
  rw [hf.flat] at hen
  have HTR := Lib.hid (truths_any v l t v1 L1 c1 w h ht hf hL1 hc1)
  have HTS := Lib.hid fun wx (hx : Ext w wx) => truths_any v l t v2 L2 c2 wx (h.ext hx) (ht.ext hx) (by rw [hlen]; exact hf) (hL2.ext hx) hc2
  have HEN := Lib.hid fun wx (hx : Ext w wx) => by have H := ends_any v l wx (h.ext hx) (ht.ext hx); rw [hen] at H; exact H
  have hl60 : l.length ≤ 60 := by rw [← hf.flat, Tm.flat_len]; exact hf.small
  have hpos : 0 < l.length := by rw [← hf.flat, Tm.flat_len]; exact t.size_pos
  have htl : ∀ L c, (tvT L c t 0).length = l.length := fun L c => by rw [tvT_len, ← Tm.flat_len, hf.flat]
  have hel : (t.ends 0).length = l.length := by rw [Tm.ends_len, ← Tm.flat_len, hf.flat]
  have HTV := Lib.hid fun i k v (hi : l[i]? = some (k, v)) => by have := tv_at L1 c1 t hf.ok i k v (by rw [hf.flat]; exact hi); rw [hf.flat] at this; exact this
  have HSUB := Lib.hid fun i (hi : i < l.length) => by have h := subs_at t hf.ok i (by rw [← Tm.flat_len, hf.flat]; exact hi); rw [hf.flat] at h; exact h
  obtain ⟨a, cap, rfl, hr⟩ := h
  obtain ⟨al1, cl1, rfl, hrl1⟩ := hL1
  obtain ⟨al2, cl2, rfl, hrl2⟩ := hL2
  have HR := Lib.hid hr
  have HF := Lib.hid hf
  have htlA := htl L1 c1
  have htlB := htl L2 c2
  have hll : ((L1.length : Int) != (L2.length : Int)) = false := by rw [hlen]; simp
  have HEB := Lib.hid fun i (hi : i + 1 < l.length) => show (t.ends 0)[i + 1]? = some (secAt (t.ends 0) i : Int) ∧ secAt (t.ends 0) i ≤ 60 from by
    have hi2 : i + 1 < (t.ends 0).length := by rw [hel]; exact hi
    have h1 := List.getElem?_eq_getElem hi2
    have h2 := (ends_nest t 0).1 (i + 1) hi2
    have h3 : t.size ≤ 60 := hf.small
    have e : secAt (t.ends 0) i = ((t.ends 0)[i + 1]).toNat := by unfold secAt; rw [List.getD, h1]; rfl
    rw [h1, e]
    exact ⟨by congr 1; omega, by omega⟩
  generalize t.ends 0 = es at *
  generalize tvT L1 c1 t 0 = A at *
  generalize tvT L2 c2 t 0 = B at *
  have HTA := Lib.hid htlA
  have HTB := Lib.hid htlB
  have HEL := Lib.hid hel
  clear hen hf hr hrl1 hrl2 ht htl htlA htlB hel hc1 hc2 hlen
  go_enter Tryz.func42, Tryz.ntmps42
  go_wp2_with fail
  refine HTR.out.mono ?_
  rintro e w1 ⟨DA, rfl, hoA, hE1⟩
  have HOA := Lib.hid hoA
  have HE1 := Lib.hid hE1
  clear hoA hE1 HTR
  go_wp2_with fail
  refine (HTS.out _ HE1.out).mono ?_
  rintro e w2 ⟨DB, rfl, hoB, hE2⟩
  have HOB := Lib.hid hoB
  have HOA2 := Lib.hid (own_ext HOA.out hE2)
  have HE2 := Lib.hid (HE1.out.trans hE2)
  clear hoB hE2 HTS HOA HE1
  go_wp2_with fail
  refine (HEN.out _ HE2.out).mono ?_
  rintro e w3 ⟨hE3, v3, rfl, hown3⟩
  obtain ⟨ae, ce, rfl, hre⟩ := hown3.row
  have HRE := Lib.hid hre
  have HE3 := Lib.hid (HE2.out.trans hE3)
  have HRA := Lib.hid (show Row w3 1 (some ⟨DA, 0, none⟩) l.length l.length (A.map .bool) from by
    obtain ⟨_, _, e, h⟩ := (own_ext HOA2.out hE3).row
    simp only [Value.slice.injEq] at e
    obtain ⟨rfl, _, rfl⟩ := e
    exact h)
  have HRB := Lib.hid (show Row w3 1 (some ⟨DB, 0, none⟩) l.length l.length (B.map .bool) from by
    obtain ⟨_, _, e, h⟩ := (own_ext HOB.out hE3).row
    simp only [Value.slice.injEq] at e
    obtain ⟨rfl, _, rfl⟩ := e
    exact h)
  clear hown3 hre hE3 HEN HE2 HOA2 HOB
  go_wp2_with fail
  go_loopg [51] l.length (fun m x wr => ∃ i : Nat, m + i = l.length ∧ x = .int .i64 (i : Int) ∧ folB l es A B i = true ∧ Ext w3 wr)
  case atStart => exact ⟨0, by omega, by go_num, rfl, Ext.refl _⟩
  case round =>
    obtain ⟨i, hmi, rfl, hfo, hE⟩ := hrel
    have HMI := Lib.hid hmi
    have HFO := Lib.hid hfo
    have HE := Lib.hid hE
    by_cases hi : i < l.length
    · obtain ⟨b, off, hb, hcc⟩ := (HR.out.ext (HE3.out.trans hE)).ops
      obtain rfl := hb hpos
      obtain ⟨k1, k2⟩ := hcc i hi
      have hg : l.getD i (0, 0) = l[i] := by simp [List.getD, List.getElem?_eq_getElem hi]
      have hfs : folB l es A B (i + 1) = (folB l es A B i && (!aheadB l[i].1 || keepB l[i].1 es A B i)) := by rw [folB, hg]
      rw [hfo] at hfs
      have htva := HTV.out i l[i].1 l[i].2 (List.getElem?_eq_getElem hi)
      obtain ⟨s, hS⟩ := HSUB.out i hi
      have hkd : l[i] = (s.kd, s.vl) := by have := hS.op; rw [List.getElem?_eq_getElem hi] at this; exact Option.some.inj this
      obtain ⟨hf1, hf2, -, -⟩ := HF.out.fit l[i] (by simp)
      have HFS := Lib.hid hfs
      have HTW := Lib.hid htva
      have hiI : (i : Int) < (l.length : Int) := by omega
      have hi0 : (0 : Int) ≤ (i : Int) := by omega
      generalize l[i] = o at *
      obtain ⟨k, u⟩ := o
      simp only at k1 k2 hf1 hf2 HFS HTW
      have hx := ext_al hE (Obj.cells #[.int .i64 k, .int .i64 u] 102)
      have hbk := blk_new wr (Obj.cells #[.int .i64 k, .int .i64 u] 102)
      have HX := Lib.hid hx
      have HBK := Lib.hid hbk
      clear hcc hb hfs htva hE hx hbk hmi hfo hg hS hkd
      cases hah : aheadB k
      · have hfs := HFS.out
        rw [hah] at hfs
        have HF1 := Lib.hid (show folB l es A B (i + 1) = true by simpa using hfs)
        have HAH := Lib.hid fun wx => by have h := ah_fn k wx; rw [hah] at h; exact h
        clear hfs hah
        go_upto_region 13 with fail
        have o0 := blk_cell HBK.out (i := 0) rfl
        generalize wr.alloc (Obj.cells #[.int .i64 k, .int .i64 u] 102) = wq at *
        generalize wr.heap.size = O at *
        refine wp_region_quiet_lit (by kernel_rfl) (by kernel_rfl) (Shut.out ?_)
        repeat (refine hq_step (fun K hK => ?_); go_simp; first | (refine hK _ ?_; clear hK K) | (apply Exists.intro; refine ⟨fun _ => ?_, hK _ ?_⟩; (first | (go_at_call 39; exact Calls.quiet_of_same (still_of (HAH.out _)))); clear hK K))
        refine hq_nil ?_
        rintro _ ⟨nq, rfl⟩
        go_wp2_with fail
        go_roundg (gk - 1)
        case measure => have := HMI.out; omega
        case rel => exact ⟨i + 1, by have := HMI.out; omega, by go_num, HF1.out, below_drewN HX.out _⟩
      · have HAH := Lib.hid fun wx => by have h := ah_fn k wx; rw [hah] at h; exact h
        have hfs := HFS.out
        rw [hah] at hfs
        have hk14 : 14 ≤ k := by have := hah; unfold aheadB at this; simp only [decide_eq_true_eq] at this; exact this.1
        have hone := HTW.out.one (by
          rcases (show k = 14 ∨ k = 15 ∨ k = 16 ∨ k = 17 ∨ k = 18 by omega) with rfl | rfl | rfl | rfl | rfl <;> decide)
        obtain ⟨he1, he2⟩ := HEB.out i hone
        have htwo : k = 15 ∨ k = 16 → secAt es i < l.length := fun h => (HTW.out.two (by rcases h with rfl | rfl <;> rfl)).2.2
        obtain ⟨bb, hbb⟩ : ∃ bb, keepB k es A B i = bb := ⟨_, rfl⟩
        have hkv := hbb
        rw [keepV_eq] at hkv
        generalize secAt es i = s at *
        have HKE := Lib.hid fun wx (hw : Ext w3 wx) => by have h := keeps_any wx (some ⟨DA, 0, none⟩) (some ⟨DB, 0, none⟩) l.length l.length l.length A B k i s (HRA.out.ext hw) (HRB.out.ext hw) hone htwo hk14 hf2 hl60; rw [hkv] at h; exact h
        obtain ⟨be, oe, hbe, hce⟩ := row_ints (HRE.out.ext HX.out)
        obtain rfl := hbe (by rw [HEL.out]; omega)
        have ce1 := hce _ _ he1
        have o0 := blk_cell HBK.out (i := 0) (v := .int .i64 k) rfl
        have HFB := Lib.hid (show folB l es A B (i + 1) = bb by rw [hfs, hbb]; rfl)
        have honeE : i + 1 < es.length := by rw [HEL.out]; exact hone
        have hw0 : IntKind.i64.wrap ((i : Int) + 1) = (i : Int) + 1 := IntWalk.i64_in _ (by omega)
        have hi1I : (i : Int) + 1 < (es.length : Int) := by omega
        have hi10 : (0 : Int) ≤ (i : Int) + 1 := by omega
        have hto : ((i : Int) + 1).toNat = i + 1 := by omega
        clear hah he1 he2 htwo hbb hkv hbe hce hfs hone honeE hk14 HTW HFS
        go_upto_region 13 with fail
        have EW := HX.out
        generalize wr.alloc (Obj.cells #[.int .i64 k, .int .i64 u] 102) = wq at *
        generalize wr.heap.size = O at *
        have cur := And.intro o0 ce1
        go_region_held3 (fun w' => w'.cell? ⟨O, 0, none⟩ = some (.int .i64 k) ∧ w'.cell? ⟨be, oe + (i + 1), none⟩ = some (.int .i64 (s : Int)))
          (first | exact cur | exact ⟨cell_later (Below.drew (Ext.refl _)) cur.1, cell_later (Below.drew (Ext.refl _)) cur.2⟩ | go_keep)
          (first
            | (go_at_call 39
               refine (HAH.out _).mono ?_
               rintro e wn ⟨rfl, rfl⟩)
            | (go_at_call 68
               refine (HKE.out _ (by first | exact EW | exact Below.drew EW)).mono ?_
               rintro e wn ⟨rfl, hE⟩
               replace cur := And.intro (cell_later hE (cell_later (Below.drew (Ext.refl _)) cur.1)) (cell_later hE (cell_later (Below.drew (Ext.refl _)) cur.2))
               replace EW : Ext w3 wn := Ext.trans (Below.drew EW) hE))
        all_goals
          have HEW := Lib.hid EW
          cases bb
          · go_wp2
            go_ret2
            exact ⟨by rw [folB_false HFB.out l.length (by omega)]; rfl, (HE3.out.trans HEW.out)⟩
          · go_wp2_with fail
            go_roundg (gk - 1)
            case measure => have := HMI.out; omega
            case rel => exact ⟨i + 1, by have := HMI.out; omega, by go_num, HFB.out, HEW.out⟩
    · obtain rfl : i = l.length := by omega
      have hiI : ¬ (l.length : Int) < (l.length : Int) := by omega
      have HEW := Lib.hid (HE3.out.trans hE)
      clear hmi hE hfo
      go_wp2
      go_ret2
      exact ⟨by rw [HFO.out]; rfl, HEW.out⟩
end Go.Proofs.YtciihiiacbnimaaGreatDoor
