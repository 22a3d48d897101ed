/- Several texts in one: Follows; FollowA; PrE; ExP; ExA; XGok; ClaimB; LineN. No condition. -/
import Derived.Test.YtbmimdnpchldlaaGreatDoorKt12
import Derived.Test.YtbmimdnpchldlaaGreatDoorKt13
import Derived.Test.YtbmimdnpchldlaaGreatDoorKt10
import Derived.Deep.RegionHeld3
import Derived.Deep.Cut
import Derived.Test.YtbmimdnpchldlaaGreatDoorKt5
import Derived.Deep.DeepCutAuto
import Derived.Deep.RegionLaw
import Derived.Test.YtbmimdnpchldlaaGreatDoorKt1
import Derived.Test.YtbmimdnpchldlaaGreatDoorKt3
import Derived.Test.YtbmimdnpchldlaaGreatDoorKt11
namespace Go.Proofs.YtbmimdnpchldlaaGreatDoor
open Go.RowKit

/-- keeps, with the second part's place told. -/
def keepV (k : Int) (now next : List Bool) (p s : Nat) : Bool :=
  if k = 14 then now.getD p false == next.getD (p + 1) false
  else if k = 17 then now.getD p false == (now.getD (p + 1) false || next.getD p false)
  else if k = 18 then now.getD p false == (now.getD (p + 1) false && next.getD p false)
  else if k = 15 then now.getD p false == (now.getD s false || (now.getD (p + 1) false && next.getD p false))
  else now.getD p false == (now.getD s false && (now.getD (p + 1) false || next.getD p false))
theorem keepV_eq (k : Int) (es : List Int) (now next : List Bool) (p : Nat) : keepB k es now next p = keepV k now next p (secAt es p) := rfl

set_option maxRecDepth 100000 in
set_option maxHeartbeats 2000000 in
theorem keeps_any (w : World) (a b : Option Addr) (n ca cb : Nat) (A B : List Bool) (k : Int) (p s : Nat) (hA : Row w 1 a n ca (A.map .bool)) (hB : Row w 1 b n cb (B.map .bool)) (hp : p + 1 < n) (hs : k = 15 ∨ k = 16 → s < n) (hk : 14 ≤ k) (hk2 : k ≤ 18) (hn : n ≤ 60) :
    Calls Tryz.prog 111 #[.agg #[.slice a n ca, .slice b n cb], .int .i64 k, .int .i64 (p : Int), .int .i64 (s : Int)] w fun e w' => e = .returned (.bool (keepV k A B p s)) ∧ Ext w w' := by
  have hAl : A.length = n := by have := hA.len; simpa using this
  have hBl : B.length = n := by have := hB.len; simpa using this
  obtain ⟨bA, oA, hA1, hA2⟩ := row_ints hA
  obtain ⟨bB, oB, hB1, hB2⟩ := row_ints hB
  obtain rfl := hA1 (by omega)
  obtain rfl := hB1 (by omega)
  have hx := ext_al (Ext.refl w) (Obj.cells #[.slice (some ⟨bA, oA, none⟩) n ca, .slice (some ⟨bB, oB, none⟩) n cb] 183)
  have hbk := blk_new w (Obj.cells #[.slice (some ⟨bA, oA, none⟩) n ca, .slice (some ⟨bB, oB, none⟩) n cb] 183)
  have p0 := blk_cell hbk (i := 0) (v := .slice (some ⟨bA, oA, none⟩) n ca) rfl
  have p1 := blk_cell hbk (i := 1) (v := .slice (some ⟨bB, oB, none⟩) n cb) rfl
  have a0 := cell_later hx (hA2 p _ (getD_some (by omega)))
  have a1 := cell_later hx (hA2 (p + 1) _ (getD_some (by omega)))
  have b0 := cell_later hx (hB2 p _ (getD_some (by omega)))
  have b1 := cell_later hx (hB2 (p + 1) _ (getD_some (by omega)))
  have HA2 := Lib.hid fun (h : s < n) => cell_later hx (hA2 s _ (getD_some (by omega)))
  have HX := Lib.hid hx
  have hpI : (p : Int) < (n : Int) := by omega
  have hp0 : (0 : Int) ≤ (p : Int) := by omega
  have hw0 : IntKind.i64.wrap ((p : Int) + 1) = (p : Int) + 1 := IntWalk.i64_in _ (by omega)
  have hp1I : (p : Int) + 1 < (n : Int) := by omega
  have hp10 : (0 : Int) ≤ (p : Int) + 1 := by omega
  have hto : ((p : Int) + 1).toNat = p + 1 := by omega
  have hsI : k = 15 ∨ k = 16 → (s : Int) < (n : Int) := fun h => by have := hs h; omega
  have HSI := Lib.hid hsI
  have HS := Lib.hid hs
  have hs0 : (0 : Int) ≤ (s : Int) := by omega
  unfold keepV
  generalize A.getD p false = me at *
  generalize A.getD (p + 1) false = fa at *
  generalize B.getD p false = la at *
  generalize B.getD (p + 1) false = fb at *
  generalize A.getD s false = sa at *
  have hkk : k = 14 ∨ k = 15 ∨ k = 16 ∨ k = 17 ∨ k = 18 := by omega
  clear hA hB hA1 hA2 hB1 hB2 hx hbk hsI hs hk hk2 hAl hBl
  rcases hkk with rfl | rfl | rfl | rfl | rfl
  · clear HA2
    go_enter Tryz.func111, Tryz.ntmps111
    go_wp2_with fail
    go_quiet (fail)
    go_wp2
    go_ret
    exact ⟨rfl, below_drewN HX.out _⟩
  · have sI := HSI.out (.inl rfl)
    have a2 := HA2.out (HS.out (.inl rfl))
    clear HSI HS HA2
    cases sa
    all_goals cases fa
    all_goals
      go_enter Tryz.func111, Tryz.ntmps111
      go_wp2_with fail
      go_quiet (fail)
      go_wp2
      go_ret
      exact ⟨by cases me <;> cases la <;> rfl, below_drewN HX.out _⟩
  · have sI := HSI.out (.inr rfl)
    have a2 := HA2.out (HS.out (.inr rfl))
    clear HSI HS HA2
    cases sa
    all_goals cases fa
    all_goals
      go_enter Tryz.func111, Tryz.ntmps111
      go_wp2_with fail
      go_quiet (fail)
      go_wp2
      go_ret
      exact ⟨by cases me <;> cases la <;> rfl, below_drewN HX.out _⟩
  · clear HA2
    cases fa
    all_goals
      go_enter Tryz.func111, Tryz.ntmps111
      go_wp2_with fail
      go_quiet (fail)
      go_wp2
      go_ret
      exact ⟨by cases me <;> cases la <;> rfl, below_drewN HX.out _⟩
  · clear HA2
    cases fa
    all_goals
      go_enter Tryz.func111, Tryz.ntmps111
      go_wp2_with fail
      go_quiet (fail)
      go_wp2
      go_ret
      exact ⟨by cases me <;> cases la <;> rfl, below_drewN HX.out _⟩

theorem folB_false {l : List Op2} {es : List Int} {now next : List Bool} {i : Nat} (h : folB l es now next i = false) : ∀ m, i ≤ m → folB l es now next m = false
  | 0, hm => by obtain rfl : i = 0 := by omega
                exact h
  | m + 1, hm => by
    by_cases e : i = m + 1
    · subst e; exact h
    · rw [folB, folB_false h m (by omega)]; rfl

end Go.Proofs.YtbmimdnpchldlaaGreatDoor

namespace Go.Proofs.YtbmimdnpchldlaaGreatDoor
open Go.RowKit

set_option maxRecDepth 100000 in
set_option maxHeartbeats 8000000 in
theorem follows_any (v : Value) (l : List Op2) (t : Tm) (v1 v2 : Value) (L1 L2 : List Bool) (c1 c2 : Nat) (w : World) (h : Ops w v l) (ht : Tab w) (hf : IsF l (L1.length : Int) t) (hL1 : Bools w v1 L1) (hL2 : Bools w v2 L2) (hlen : L2.length = L1.length) (hc1 : c1 < 2 ^ cntA l) (hc2 : c2 < 2 ^ cntA l) :
    Calls Tryz.prog 80 #[v, v1, .int .i64 (c1 : Int), v2, .int .i64 (c2 : Int)] w fun e w' => e = .returned (.tuple #[.bool (folB l (t.ends 0) (tvT L1 c1 t 0) (tvT L2 c2 t 0) l.length), .int .i64 0]) ∧ Ext w w' := by
  have hen := ends_term t hf.ok hf.small
  rw [hf.flat] at hen
  have HTR := Lib.hid (truths_any v l t v1 L1 c1 w h ht hf hL1 hc1)
  have HTS := Lib.hid fun wx (hx : Ext w wx) => truths_any v l t v2 L2 c2 wx (h.ext hx) (ht.ext hx) (by rw [hlen]; exact hf) (hL2.ext hx) hc2
  have HEN := Lib.hid fun wx (hx : Ext w wx) => by have H := ends_any v l wx (h.ext hx) (ht.ext hx); rw [hen] at H; exact H
  have hl60 : l.length ≤ 60 := by rw [← hf.flat, Tm.flat_len]; exact hf.small
  have hpos : 0 < l.length := by rw [← hf.flat, Tm.flat_len]; exact t.size_pos
  have htl : ∀ L c, (tvT L c t 0).length = l.length := fun L c => by rw [tvT_len, ← Tm.flat_len, hf.flat]
  have hel : (t.ends 0).length = l.length := by rw [Tm.ends_len, ← Tm.flat_len, hf.flat]
  have HTV := Lib.hid fun i k v (hi : l[i]? = some (k, v)) => by have := tv_at L1 c1 t hf.ok i k v (by rw [hf.flat]; exact hi); rw [hf.flat] at this; exact this
  have HSUB := Lib.hid fun i (hi : i < l.length) => by have h := subs_at t hf.ok i (by rw [← Tm.flat_len, hf.flat]; exact hi); rw [hf.flat] at h; exact h
  obtain ⟨a, cap, rfl, hr⟩ := h
  obtain ⟨al1, cl1, rfl, hrl1⟩ := hL1
  obtain ⟨al2, cl2, rfl, hrl2⟩ := hL2
  have HR := Lib.hid hr
  have HF := Lib.hid hf
  have htlA := htl L1 c1
  have htlB := htl L2 c2
  have hll : ((L1.length : Int) != (L2.length : Int)) = false := by rw [hlen]; simp
  have HEB := Lib.hid fun i (hi : i + 1 < l.length) => show (t.ends 0)[i + 1]? = some (secAt (t.ends 0) i : Int) ∧ secAt (t.ends 0) i ≤ 60 from by
    have hi2 : i + 1 < (t.ends 0).length := by rw [hel]; exact hi
    have h1 := List.getElem?_eq_getElem hi2
    have h2 := (ends_nest t 0).1 (i + 1) hi2
    have h3 : t.size ≤ 60 := hf.small
    have e : secAt (t.ends 0) i = ((t.ends 0)[i + 1]).toNat := by unfold secAt; rw [List.getD, h1]; rfl
    rw [h1, e]
    exact ⟨by congr 1; omega, by omega⟩
  generalize t.ends 0 = es at *
  generalize tvT L1 c1 t 0 = A at *
  generalize tvT L2 c2 t 0 = B at *
  have HTA := Lib.hid htlA
  have HTB := Lib.hid htlB
  have HEL := Lib.hid hel
  clear hen hf hr hrl1 hrl2 ht htl htlA htlB hel hc1 hc2 hlen
  go_enter Tryz.func80, Tryz.ntmps80
  go_wp2_with fail
  refine HTR.out.mono ?_
  rintro e w1 ⟨DA, rfl, hoA, hE1⟩
  have HOA := Lib.hid hoA
  have HE1 := Lib.hid hE1
  clear hoA hE1 HTR
  go_wp2_with fail
  refine (HTS.out _ HE1.out).mono ?_
  rintro e w2 ⟨DB, rfl, hoB, hE2⟩
  have HOB := Lib.hid hoB
  have HOA2 := Lib.hid (own_ext HOA.out hE2)
  have HE2 := Lib.hid (HE1.out.trans hE2)
  clear hoB hE2 HTS HOA HE1
  go_wp2_with fail
  refine (HEN.out _ HE2.out).mono ?_
  rintro e w3 ⟨hE3, v3, rfl, hown3⟩
  obtain ⟨ae, ce, rfl, hre⟩ := hown3.row
  have HRE := Lib.hid hre
  have HE3 := Lib.hid (HE2.out.trans hE3)
  have HRA := Lib.hid (show Row w3 1 (some ⟨DA, 0, none⟩) l.length l.length (A.map .bool) from by
    obtain ⟨_, _, e, h⟩ := (own_ext HOA2.out hE3).row
    simp only [Value.slice.injEq] at e
    obtain ⟨rfl, _, rfl⟩ := e
    exact h)
  have HRB := Lib.hid (show Row w3 1 (some ⟨DB, 0, none⟩) l.length l.length (B.map .bool) from by
    obtain ⟨_, _, e, h⟩ := (own_ext HOB.out hE3).row
    simp only [Value.slice.injEq] at e
    obtain ⟨rfl, _, rfl⟩ := e
    exact h)
  clear hown3 hre hE3 HEN HE2 HOA2 HOB
  go_wp2_with fail
  go_loopg [51] l.length (fun m x wr => ∃ i : Nat, m + i = l.length ∧ x = .int .i64 (i : Int) ∧ folB l es A B i = true ∧ Ext w3 wr)
  case atStart => exact ⟨0, by omega, by go_num, rfl, Ext.refl _⟩
  case round =>
    obtain ⟨i, hmi, rfl, hfo, hE⟩ := hrel
    have HMI := Lib.hid hmi
    have HFO := Lib.hid hfo
    have HE := Lib.hid hE
    by_cases hi : i < l.length
    · obtain ⟨b, off, hb, hcc⟩ := (HR.out.ext (HE3.out.trans hE)).ops
      obtain rfl := hb hpos
      obtain ⟨k1, k2⟩ := hcc i hi
      have hg : l.getD i (0, 0) = l[i] := by simp [List.getD, List.getElem?_eq_getElem hi]
      have hfs : folB l es A B (i + 1) = (folB l es A B i && (!aheadB l[i].1 || keepB l[i].1 es A B i)) := by rw [folB, hg]
      rw [hfo] at hfs
      have htva := HTV.out i l[i].1 l[i].2 (List.getElem?_eq_getElem hi)
      obtain ⟨s, hS⟩ := HSUB.out i hi
      have hkd : l[i] = (s.kd, s.vl) := by have := hS.op; rw [List.getElem?_eq_getElem hi] at this; exact Option.some.inj this
      obtain ⟨hf1, hf2, -, -⟩ := HF.out.fit l[i] (by simp)
      have HFS := Lib.hid hfs
      have HTW := Lib.hid htva
      have hiI : (i : Int) < (l.length : Int) := by omega
      have hi0 : (0 : Int) ≤ (i : Int) := by omega
      generalize l[i] = o at *
      obtain ⟨k, u⟩ := o
      simp only at k1 k2 hf1 hf2 HFS HTW
      have hx := ext_al hE (Obj.cells #[.int .i64 k, .int .i64 u] 75)
      have hbk := blk_new wr (Obj.cells #[.int .i64 k, .int .i64 u] 75)
      have HX := Lib.hid hx
      have HBK := Lib.hid hbk
      clear hcc hb hfs htva hE hx hbk hmi hfo hg hS hkd
      cases hah : aheadB k
      · have hfs := HFS.out
        rw [hah] at hfs
        have HF1 := Lib.hid (show folB l es A B (i + 1) = true by simpa using hfs)
        have HAH := Lib.hid fun wx => by have h := ah_fn k wx; rw [hah] at h; exact h
        clear hfs hah
        go_upto_region 13 with fail
        have o0 := blk_cell HBK.out (i := 0) rfl
        generalize wr.alloc (Obj.cells #[.int .i64 k, .int .i64 u] 75) = wq at *
        generalize wr.heap.size = O at *
        refine wp_region_quiet_lit (by kernel_rfl) (by kernel_rfl) (Shut.out ?_)
        repeat (refine hq_step (fun K hK => ?_); go_simp; first | (refine hK _ ?_; clear hK K) | (apply Exists.intro; refine ⟨fun _ => ?_, hK _ ?_⟩; (first | (go_at_call 77; exact Calls.quiet_of_same (still_of (HAH.out _)))); clear hK K))
        refine hq_nil ?_
        rintro _ ⟨nq, rfl⟩
        go_wp2_with fail
        go_roundg (gk - 1)
        case measure => have := HMI.out; omega
        case rel => exact ⟨i + 1, by have := HMI.out; omega, by go_num, HF1.out, below_drewN HX.out _⟩
      · have HAH := Lib.hid fun wx => by have h := ah_fn k wx; rw [hah] at h; exact h
        have hfs := HFS.out
        rw [hah] at hfs
        have hk14 : 14 ≤ k := by have := hah; unfold aheadB at this; simp only [decide_eq_true_eq] at this; exact this.1
        have hone := HTW.out.one (by
          rcases (show k = 14 ∨ k = 15 ∨ k = 16 ∨ k = 17 ∨ k = 18 by omega) with rfl | rfl | rfl | rfl | rfl <;> decide)
        obtain ⟨he1, he2⟩ := HEB.out i hone
        have htwo : k = 15 ∨ k = 16 → secAt es i < l.length := fun h => (HTW.out.two (by rcases h with rfl | rfl <;> rfl)).2.2
        obtain ⟨bb, hbb⟩ : ∃ bb, keepB k es A B i = bb := ⟨_, rfl⟩
        have hkv := hbb
        rw [keepV_eq] at hkv
        generalize secAt es i = s at *
        have HKE := Lib.hid fun wx (hw : Ext w3 wx) => by have h := keeps_any wx (some ⟨DA, 0, none⟩) (some ⟨DB, 0, none⟩) l.length l.length l.length A B k i s (HRA.out.ext hw) (HRB.out.ext hw) hone htwo hk14 hf2 hl60; rw [hkv] at h; exact h
        obtain ⟨be, oe, hbe, hce⟩ := row_ints (HRE.out.ext HX.out)
        obtain rfl := hbe (by rw [HEL.out]; omega)
        have ce1 := hce _ _ he1
        have o0 := blk_cell HBK.out (i := 0) (v := .int .i64 k) rfl
        have HFB := Lib.hid (show folB l es A B (i + 1) = bb by rw [hfs, hbb]; rfl)
        have honeE : i + 1 < es.length := by rw [HEL.out]; exact hone
        have hw0 : IntKind.i64.wrap ((i : Int) + 1) = (i : Int) + 1 := IntWalk.i64_in _ (by omega)
        have hi1I : (i : Int) + 1 < (es.length : Int) := by omega
        have hi10 : (0 : Int) ≤ (i : Int) + 1 := by omega
        have hto : ((i : Int) + 1).toNat = i + 1 := by omega
        clear hah he1 he2 htwo hbb hkv hbe hce hfs hone honeE hk14 HTW HFS
        go_upto_region 13 with fail
        have EW := HX.out
        generalize wr.alloc (Obj.cells #[.int .i64 k, .int .i64 u] 75) = wq at *
        generalize wr.heap.size = O at *
        have cur := And.intro o0 ce1
        go_region_held3 (fun w' => w'.cell? ⟨O, 0, none⟩ = some (.int .i64 k) ∧ w'.cell? ⟨be, oe + (i + 1), none⟩ = some (.int .i64 (s : Int)))
          (first | exact cur | exact ⟨cell_later (Below.drew (Ext.refl _)) cur.1, cell_later (Below.drew (Ext.refl _)) cur.2⟩ | go_keep)
          (first
            | (go_at_call 77
               refine (HAH.out _).mono ?_
               rintro e wn ⟨rfl, rfl⟩)
            | (go_at_call 111
               refine (HKE.out _ (by first | exact EW | exact Below.drew EW)).mono ?_
               rintro e wn ⟨rfl, hE⟩
               replace cur := And.intro (cell_later hE (cell_later (Below.drew (Ext.refl _)) cur.1)) (cell_later hE (cell_later (Below.drew (Ext.refl _)) cur.2))
               replace EW : Ext w3 wn := Ext.trans (Below.drew EW) hE))
        all_goals
          have HEW := Lib.hid EW
          cases bb
          · go_wp2
            go_ret2
            exact ⟨by rw [folB_false HFB.out l.length (by omega)]; rfl, (HE3.out.trans HEW.out)⟩
          · go_wp2_with fail
            go_roundg (gk - 1)
            case measure => have := HMI.out; omega
            case rel => exact ⟨i + 1, by have := HMI.out; omega, by go_num, HFB.out, HEW.out⟩
    · obtain rfl : i = l.length := by omega
      have hiI : ¬ (l.length : Int) < (l.length : Int) := by omega
      have HEW := Lib.hid (HE3.out.trans hE)
      clear hmi hE hfo
      go_wp2
      go_ret2
      exact ⟨by rw [HFO.out]; rfl, HEW.out⟩

end Go.Proofs.YtbmimdnpchldlaaGreatDoor

namespace Go.Proofs.YtbmimdnpchldlaaGreatDoor
open Go.RowKit

set_option maxRecDepth 100000 in
set_option maxHeartbeats 8000000 in
theorem spot_ok (vv rv pv fv : Value) (m : Md) (P : List Tm) (t : Tm) (s cl : Int) (w : World) (h : IsTask w vv rv pv fv m P t) (ht : Tab w) (hk : TkOk m P t) (hs0 : 0 ≤ s) (hs1 : s < countL m.vars) (hc0 : 0 ≤ cl) :
    Calls Tryz.prog 79 #[.agg #[vv, rv, pv, fv], .agg #[.int .i64 s, .int .i64 cl]] w fun e w' => e = .returned (.bool (decide (cl < ((2 ^ cntA t.flat : Nat) : Int)))) ∧ Ext w w' := by
  have HCO := Lib.hid fun wx (hx : Ext w wx) => count_any vv rv m wx (h.md.ext hx) (ht.ext hx) hk.ok
  have HCL := Lib.hid fun wx (hx : Ext w wx) => claims_n vv rv pv fv m P t wx (h.ext hx) (ht.ext hx) hk
  obtain ⟨av, cv, ar, cr, ap, cp, af, nf, cf, rfl, rfl, rfl, rfl⟩ := h.val
  obtain ⟨N, hN⟩ : ∃ x, 2 ^ cntA t.flat = x := ⟨_, rfl⟩
  rw [hN] at HCL ⊢
  obtain ⟨C, hC⟩ : ∃ x, countL m.vars = x := ⟨_, rfl⟩
  rw [hC] at HCO hs1
  generalize m.vars.length = nv at *
  generalize m.rules.length = nr at *
  generalize P.length = np at *
  clear h ht hk hN hC
  have hb := blk_new w (Obj.cells #[.slice av nv cv, .slice ar nr cr, .slice ap np cp, .slice af nf cf] 35)
  have hx := ext_al (Ext.refl (w.alloc (Obj.cells #[.slice av nv cv, .slice ar nr cr, .slice ap np cp, .slice af nf cf] 35))) (Obj.cells #[.int .i64 s, .int .i64 cl] 59)
  have hb2 := blk_new (w.alloc (Obj.cells #[.slice av nv cv, .slice ar nr cr, .slice ap np cp, .slice af nf cf] 35)) (Obj.cells #[.int .i64 s, .int .i64 cl] 59)
  rw [World.size_alloc] at hb2
  have HE := Lib.hid ((ext_al (Ext.refl w) (Obj.cells #[.slice av nv cv, .slice ar nr cr, .slice ap np cp, .slice af nf cf] 35)).trans hx)
  have HB := Lib.hid (blk_ext hb hx)
  have HS := Lib.hid hb2
  have d0 := blk_cell (blk_ext hb hx) (i := 0) rfl
  have d1 := blk_cell (blk_ext hb hx) (i := 1) rfl
  clear hb hx hb2
  go_enter Tryz.func79, Tryz.ntmps79
  go_wp2_with fail
  generalize (w.alloc (Obj.cells #[.slice av nv cv, .slice ar nr cr, .slice ap np cp, .slice af nf cf] 35)).alloc (Obj.cells #[.int .i64 s, .int .i64 cl] 59) = W1 at *
  refine (HCO.out _ HE.out).mono ?_
  rintro e w2 ⟨rfl, hE2⟩
  have HX2 := Lib.hid (HE.out.trans hE2)
  have hb2 := blk_ext HB.out hE2
  have hs2 := blk_ext HS.out hE2
  have d0 := blk_cell hb2 (i := 0) rfl
  have d1 := blk_cell hb2 (i := 1) rfl
  have d2 := blk_cell hb2 (i := 2) rfl
  have d3 := blk_cell hb2 (i := 3) rfl
  have s0 := blk_cell hs2 (i := 0) rfl
  have s1 := blk_cell hs2 (i := 1) rfl
  have HS2 := Lib.hid hs2
  have k1 : decide (0 ≤ s) = true := decide_eq_true hs0
  have k2 : decide (s < C) = true := decide_eq_true hs1
  have k3 : decide (0 ≤ cl) = true := decide_eq_true hc0
  clear hE2 hb2 hs2
  go_upto_region 2 with fail
  go_region_law (first
    | (go_simp
       go_at_call 74
       refine (HCL.out _ (HX2.out.trans (Below.drew (Ext.refl _)))).mono ?_
       rintro e w5 ⟨rfl, hE5⟩
       have s05 := blk_cell (blk_ext HS2.out (Ext.trans (Below.drew (Ext.refl _)) hE5)) (i := 0) rfl
       have s15 := blk_cell (blk_ext HS2.out (Ext.trans (Below.drew (Ext.refl _)) hE5)) (i := 1) rfl
       have HE5 := Lib.hid (HX2.out.trans (Ext.trans (Below.drew (Ext.refl _)) hE5))
       clear hE5))
  all_goals
    go_wp2
    go_ret
    exact ⟨rfl, HE5.out⟩

/-- Spots at a state, with the claims below a number that follow. -/
def behN (F : Int → Nat → Bool) (n : Int) (i : Nat) : List (Int × Int) := ((List.range i).filter (F n)).map fun c : Nat => (n, (c : Int))
theorem behN_yes {F : Int → Nat → Bool} {n : Int} {i : Nat} (h : F n i = true) : behN F n (i + 1) = behN F n i ++ [(n, (i : Int))] := by
  unfold behN
  rw [List.range_succ, List.filter_append, List.map_append]
  simp [h]
theorem behN_no {F : Int → Nat → Bool} {n : Int} {i : Nat} (h : F n i = false) : behN F n (i + 1) = behN F n i := by
  unfold behN
  rw [List.range_succ, List.filter_append, List.map_append]
  simp [h]
theorem behN_len (F : Int → Nat → Bool) (n : Int) (i : Nat) : (behN F n i).length ≤ i := by
  unfold behN
  rw [List.length_map]
  exact Nat.le_trans (List.length_filter_le _ _) (by simp)
def behL (F : Int → Nat → Bool) (N : Nat) (ns : List Int) : List (Int × Int) := ns.flatMap fun n => behN F n N
theorem behL_succ {F : Int → Nat → Bool} {N : Nat} {ns : List Int} {i : Nat} (hi : i < ns.length) : behL F N (ns.take (i + 1)) = behL F N (ns.take i) ++ behN F ns[i] N := by
  unfold behL
  rw [List.take_succ_eq_append_getElem hi, List.flatMap_append]
  simp
theorem behL_len (F : Int → Nat → Bool) (N : Nat) : ∀ (ns : List Int), (behL F N ns).length ≤ ns.length * N
  | [] => by simp [behL]
  | n :: ns => by
    have h1 := behL_len F N ns
    have h2 := behN_len F n N
    unfold behL at *
    rw [List.flatMap_cons, List.length_append, List.length_cons, Nat.add_mul]
    omega
/-- Does a claim at a state follow another one? -/
def folX (m : Md) (P : List Tm) (t : Tm) (s : Int) (cl : Nat) (n : Int) (c : Nat) : Bool :=
  folB t.flat (t.ends 0) (tvT (letS P (valsL m.vars s)) cl t 0) (tvT (letS P (valsL m.vars n)) c t 0) t.flat.length

set_option maxRecDepth 100000 in
set_option maxHeartbeats 16000000 in
theorem pbehind_any (vv rv pv fv : Value) (m : Md) (P : List Tm) (t : Tm) (s : Int) (cl : Nat) (w : World) (h : IsTask w vv rv pv fv m P t) (ht : Tab w) (hk : TkOk m P t) (hs0 : 0 ≤ s) (hs1 : s < countL m.vars) (hc0 : cl < 2 ^ cntA t.flat) :
    Calls Tryz.prog 46 #[.agg #[vv, rv, pv, fv], .agg #[.int .i64 s, .int .i64 (cl : Int)]] w fun e w' => ∃ v, e = .returned (.tuple #[v, .int .i64 0]) ∧
      w'.ownsRow w.heap.size 59 2 v (behL (folX m P t s cl) (2 ^ cntA t.flat) (nextL m s)).length ((behL (folX m P t s cl) (2 ^ cntA t.flat) (nextL m s)).flatMap spc) ∧ Ext w w' := by
  have HCK := Lib.hid fun wx (hx : Ext w wx) => pcheck_any vv rv pv fv m P t wx (h.ext hx) (ht.ext hx) hk
  have HCL := Lib.hid fun wx (hx : Ext w wx) => claims_n vv rv pv fv m P t wx (h.ext hx) (ht.ext hx) hk
  have HSP := Lib.hid fun wx (hx : Ext w wx) => (show Calls Tryz.prog 79 #[.agg #[vv, rv, pv, fv], .agg #[.int .i64 s, .int .i64 (cl : Int)]] wx fun e w' => e = .returned (.bool true) ∧ Ext wx w' from by
    have h1 := spot_ok vv rv pv fv m P t s (cl : Int) wx (h.ext hx) (ht.ext hx) hk hs0 hs1 (by omega)
    rw [decide_eq_true (show (cl : Int) < ((2 ^ cntA t.flat : Nat) : Int) by omega)] at h1
    exact h1)
  have HLE := Lib.hid fun (n : Int) wx (hx : Ext w wx) (hn : 0 ≤ n ∧ n < countL m.vars) => sletter_any vv rv pv m P n wx (h.md.ext hx) (ht.ext hx) hk.ok (h.pr.ext hx) hk.pk hn.1 hn.2
  have HNX := Lib.hid fun wx (hx : Ext w wx) => nextE_any vv rv m s wx (h.md.ext hx) (ht.ext hx) hk.ok hk.v0 hs0 hs1
  have HNI := Lib.hid fun n (hn : n ∈ nextL m s) => (show 0 ≤ n ∧ n < countL m.vars from NextP.in hk.ok.toPre hs0 hs1 (((nextL_ok m s).mem n).1 hn))
  have HLL := Lib.hid fun n => letS_len P (valsL m.vars n)
  have HFO := Lib.hid fun (v1 v2 : Value) (n : Int) (c : Nat) wx (hx : Ext w wx) (h1 : Bools wx v1 (letS P (valsL m.vars s))) (h2 : Bools wx v2 (letS P (valsL m.vars n))) (hc : c < 2 ^ cntA t.flat) => (show Calls Tryz.prog 80 #[fv, v1, .int .i64 (cl : Int), v2, .int .i64 (c : Int)] wx fun e w' => e = .returned (.tuple #[.bool (folX m P t s cl n c), .int .i64 0]) ∧ Ext wx w' from
    follows_any fv t.flat t v1 v2 (letS P (valsL m.vars s)) (letS P (valsL m.vars n)) cl c wx (h.fo.ext hx) (ht.ext hx) (by rw [letS_len]; exact hk.ff) h1 h2 (by rw [letS_len, letS_len]) hc0 hc)
  have hp2 : 2 ^ cntA t.flat ≤ 64 := by
    have := Nat.pow_le_pow_right (n := 2) (by omega) hk.ff.cnt
    simpa using this
  have hn1 := (nextL_len m s).1
  have hn2 : (nextL m s).length ≤ 12 := by have := (nextL_len m s).2; have := hk.ok.twelve; omega
  have hp6 := hk.pk.six
  obtain ⟨av, cv, ar, cr, ap, cp, af, nf, cf, rfl, rfl, rfl, rfl⟩ := h.val
  generalize folX m P t s cl = F at *
  generalize nextL m s = ns at *
  obtain ⟨LT, hLT⟩ : ∃ LT : Int → List Bool, (fun n => letS P (valsL m.vars n)) = LT := ⟨_, rfl⟩
  have hLTa : ∀ n, letS P (valsL m.vars n) = LT n := fun n => by rw [← hLT]
  simp only [hLTa] at HLE HFO HLL
  obtain ⟨C, hC⟩ : ∃ x, countL m.vars = x := ⟨_, rfl⟩
  rw [hC] at HLE HNI hs1
  obtain ⟨N, hN⟩ : ∃ x, 2 ^ cntA t.flat = x := ⟨_, rfl⟩
  rw [hN] at HCL HFO hp2 hc0 ⊢
  clear h ht hk hLT hLTa hC hN
  generalize m.vars.length = nv at *
  generalize m.rules.length = nr at *
  generalize P.length = np at *
  have hb := blk_new w (Obj.cells #[.slice av nv cv, .slice ar nr cr, .slice ap np cp, .slice af nf cf] 35)
  have hx := ext_al (Ext.refl (w.alloc (Obj.cells #[.slice av nv cv, .slice ar nr cr, .slice ap np cp, .slice af nf cf] 35))) (Obj.cells #[.int .i64 s, .int .i64 (cl : Int)] 59)
  have hb2 := blk_new (w.alloc (Obj.cells #[.slice av nv cv, .slice ar nr cr, .slice ap np cp, .slice af nf cf] 35)) (Obj.cells #[.int .i64 s, .int .i64 (cl : Int)] 59)
  rw [World.size_alloc] at hb2
  have HE := Lib.hid ((ext_al (Ext.refl w) (Obj.cells #[.slice av nv cv, .slice ar nr cr, .slice ap np cp, .slice af nf cf] 35)).trans hx)
  have HB := Lib.hid (blk_ext hb hx)
  have HS := Lib.hid hb2
  have d0 := blk_cell HB.out (i := 0) rfl
  have d1 := blk_cell HB.out (i := 1) rfl
  have d2 := blk_cell HB.out (i := 2) rfl
  have d3 := blk_cell HB.out (i := 3) rfl
  clear hb hx hb2
  go_enter Tryz.func46, Tryz.ntmps46
  go_wp2_with fail
  generalize (w.alloc (Obj.cells #[.slice av nv cv, .slice ar nr cr, .slice ap np cp, .slice af nf cf] 35)).alloc (Obj.cells #[.int .i64 s, .int .i64 (cl : Int)] 59) = W1 at *
  refine (HCK.out _ HE.out).mono ?_
  rintro e w2 ⟨rfl, hE2⟩
  have HY2 := Lib.hid hE2
  have d0 := blk_cell (blk_ext HB.out hE2) (i := 0) rfl
  have d1 := blk_cell (blk_ext HB.out hE2) (i := 1) rfl
  have d2 := blk_cell (blk_ext HB.out hE2) (i := 2) rfl
  have d3 := blk_cell (blk_ext HB.out hE2) (i := 3) rfl
  have s0 := blk_cell (blk_ext HS.out hE2) (i := 0) rfl
  have s1 := blk_cell (blk_ext HS.out hE2) (i := 1) rfl
  clear hE2
  go_wp2_with fail
  refine (HSP.out _ (HE.out.trans HY2.out)).mono ?_
  rintro e w3 ⟨rfl, hE3⟩
  have HY3 := Lib.hid (HY2.out.trans hE3)
  have d0 := blk_cell (blk_ext HB.out HY3.out) (i := 0) rfl
  have d1 := blk_cell (blk_ext HB.out HY3.out) (i := 1) rfl
  have d2 := blk_cell (blk_ext HB.out HY3.out) (i := 2) rfl
  have s0 := blk_cell (blk_ext HS.out HY3.out) (i := 0) rfl
  clear hE3 d3 s1
  go_wp2_with fail
  refine (HLE.out s _ (HE.out.trans HY3.out) ⟨hs0, hs1⟩).mono ?_
  rintro e w4 ⟨v4, rfl, ho4, hE4⟩
  obtain ⟨a4, c4, rfl, _⟩ := id ho4.row
  have HBO := Lib.hid (show Bools w4 (.slice a4 np c4) (LT s) from by
    have h := ho4.reads
    unfold Bools
    rw [HLL.out]
    exact h)
  have HY4 := Lib.hid (HY3.out.trans hE4)
  have d0 := blk_cell (blk_ext HB.out HY4.out) (i := 0) rfl
  have d1 := blk_cell (blk_ext HB.out HY4.out) (i := 1) rfl
  have s0 := blk_cell (blk_ext HS.out HY4.out) (i := 0) rfl
  clear hE4 ho4 d2
  go_wp2_with fail
  refine (HNX.out _ (HE.out.trans HY4.out)).mono ?_
  rintro e w5 ⟨v5, rfl, ho5, hE5⟩
  obtain ⟨Q5, c5, rfl⟩ := own_shape ho5 hn1
  have HY5 := Lib.hid (HY4.out.trans hE5)
  have HBO5 := Lib.hid (HBO.out.ext hE5)
  have HO5 := Lib.hid ho5
  clear hE5 ho5 d0 d1 s0 HBO
  have HO0 := Lib.hid (show w5.ownsRow w5.heap.size 59 2 (.slice none 0 0) (behL F N (ns.take 0)).length ((behL F N (ns.take 0)).flatMap spc) from World.ownsRow_nil _ _ _ _)
  have HBL := Lib.hid fun i => behL_len F N (ns.take i)
  have HBN := Lib.hid fun n i => behN_len F n i
  go_wp2_with fail
  go_loopg [48, 11] ns.length (fun g x y wr => ∃ (i : Nat) (ab : Option Addr) (cb : Nat), g + i = ns.length ∧ x = .int .i64 (i : Int) ∧ y = .slice ab (behL F N (ns.take i)).length cb ∧ Ext w5 wr ∧ wr.ownsRow w5.heap.size 59 2 (.slice ab (behL F N (ns.take i)).length cb) (behL F N (ns.take i)).length ((behL F N (ns.take i)).flatMap spc))
  case atStart => exact ⟨0, none, 0, by omega, by go_num, rfl, Ext.refl _, HO0.out⟩
  case round =>
    obtain ⟨i, ab, cb, hgi, rfl, rfl, hE, hO⟩ := hrel
    have HGI := Lib.hid hgi
    have HEE := Lib.hid hE
    have HOO := Lib.hid hO
    clear HO0
    by_cases hi : i < ns.length
    · have hbr := blk_ext HB.out (HY5.out.trans hE)
      have d0 := blk_cell hbr (i := 0) rfl
      have d1 := blk_cell hbr (i := 1) rfl
      have d2 := blk_cell hbr (i := 2) rfl
      have cn := own_cellAt (own_ext HO5.out hE) (i := i) (by simpa using hi)
      rw [List.getElem_map] at cn
      have hnb := HNI.out ns[i] (by simp)
      have HLN := Lib.hid (HLE.out ns[i] wr (HE.out.trans (HY5.out.trans hE)) hnb)
      have HSC := Lib.hid (behL_succ (F := F) (N := N) hi)
      have hbl := HBL.out i
      have htk : (ns.take i).length ≤ 12 := by rw [List.length_take]; omega
      have hbl2 : (behL F N (ns.take i)).length ≤ 12 * 64 := Nat.le_trans hbl (Nat.mul_le_mul htk hp2)
      have hiI : (i : Int) < (ns.length : Int) := by omega
      have hi0 : (0 : Int) ≤ (i : Int) := by omega
      generalize ns[i] = n at *
      generalize behL F N (ns.take i) = X at *
      obtain ⟨nX, hnX⟩ : ∃ x, X.length = x := ⟨_, rfl⟩
      rw [hnX] at HOO hbl2 ⊢
      have HNX2 := Lib.hid hnX
      clear hgi hE hO hbr hnb hbl htk hnX
      go_wp2_with fail
      refine HLN.out.mono ?_
      rintro e w6 ⟨v6, rfl, ho6, hE6⟩
      obtain ⟨a6, c6, rfl, _⟩ := id ho6.row
      have HY6 := Lib.hid (HEE.out.trans hE6)
      have hbr := blk_ext HB.out (HY5.out.trans HY6.out)
      have d0 := blk_cell hbr (i := 0) rfl
      have d1 := blk_cell hbr (i := 1) rfl
      have d2 := blk_cell hbr (i := 2) rfl
      have d3 := blk_cell hbr (i := 3) rfl
      have HO6 := Lib.hid ho6
      have HLO6 := Lib.hid (own_ext HOO.out hE6)
      have HSEP := Lib.hid (show ∀ b, (Value.slice ab nX cb).ownBlock = some b → (Value.slice a6 np c6).ownBlock ≠ some b from fun b h1 h2 => by
        have := (HOO.out.lt b h1).2
        have := (ho6.lt b h2).1
        omega)
      clear hbr ho6 hE6 cn
      go_wp2_with fail
      refine (HCL.out _ (HE.out.trans (HY5.out.trans HY6.out))).mono ?_
      rintro e w7 ⟨rfl, hE7⟩
      have HY7 := Lib.hid (HY6.out.trans hE7)
      have HO7 := Lib.hid (own_ext HO6.out hE7)
      have HLO7 := Lib.hid (own_ext HLO6.out hE7)
      obtain ⟨B6, hB6⟩ : ∃ x, wr.heap.size = x := ⟨_, rfl⟩
      rw [hB6] at HO7
      clear hE7 d0 d1 d2 d3 hB6
      go_wp2_with fail
      obtain ⟨wo, rfl⟩ : ∃ wo : World, wo = wr := ⟨_, rfl⟩
      obtain ⟨G0, rfl⟩ : ∃ G0 : Nat, G0 = gk := ⟨_, rfl⟩
      go_loopg [63, 11] N (fun g x y wq => ∃ (c : Nat) (ab' : Option Addr) (cb' : Nat), g + c = N ∧ x = .int .i64 (c : Int) ∧ y = .slice ab' (nX + (behN F n c).length) cb' ∧ Ext w5 wq ∧ wq.ownsRow w5.heap.size 59 2 (.slice ab' (nX + (behN F n c).length) cb') (nX + (behN F n c).length) ((X ++ behN F n c).flatMap spc) ∧ (∀ b, (Value.slice ab' (nX + (behN F n c).length) cb').ownBlock = some b → (Value.slice a6 np c6).ownBlock ≠ some b) ∧ wq.ownsRow B6 4 1 (.slice a6 np c6) np ((LT n).map .bool))
      case atStart => exact ⟨0, ab, cb, by omega, by go_num, rfl, HY7.out, by simpa [behN] using HLO7.out, HSEP.out, HO7.out⟩
      case round =>
        obtain ⟨c, ab', cb', hgc, rfl, rfl, hE, hO, hSep, hL⟩ := hrel
        have HGC := Lib.hid hgc
        have HEQ := Lib.hid hE
        have HOQ := Lib.hid hO
        have HSQ := Lib.hid hSep
        have HLQ := Lib.hid hL
        by_cases hc : c < N
        · have hbr := blk_ext HB.out (HY5.out.trans hE)
          have hbs := blk_ext HS.out (HY5.out.trans hE)
          have d2 := blk_cell hbr (i := 2) rfl
          have d3 := blk_cell hbr (i := 3) rfl
          have s1 := blk_cell hbs (i := 1) rfl
          have HFC := Lib.hid (HFO.out (.slice a4 np c4) (.slice a6 np c6) n c wr (HE.out.trans (HY5.out.trans hE)) (HBO5.out.ext hE) (by
            have h := hL.reads
            unfold Bools
            rw [HLL.out]
            exact h) hc)
          have hbn := HBN.out n c
          have HYS := Lib.hid fun h => behN_yes (F := F) (n := n) (i := c) h
          have HNO := Lib.hid fun h => behN_no (F := F) (n := n) (i := c) h
          obtain ⟨q, hq⟩ : ∃ q, F n c = q := ⟨_, rfl⟩
          rw [hq] at HFC HYS HNO
          have hcI : (c : Int) < (N : Int) := by omega
          have hc0' : (0 : Int) ≤ (c : Int) := by omega
          obtain ⟨nB, hnB⟩ : ∃ x, (behN F n c).length = x := ⟨_, rfl⟩
          rw [hnB] at HOQ HSQ hbn ⊢
          have HNB := Lib.hid hnB
          clear hgc hE hO hSep hL hbr hbs hq hnB
          go_wp2_with fail
          refine HFC.out.mono ?_
          rintro e w8 ⟨rfl, hE8⟩
          have HE8 := Lib.hid (HEQ.out.trans hE8)
          have HO8 := Lib.hid (own_ext HOQ.out hE8)
          have HL8 := Lib.hid (own_ext HLQ.out hE8)
          clear hE8 d2 d3 s1
          cases q
          · have HBE := Lib.hid (HNO.out (by first | rfl | trivial))
            go_wp2_with fail
            go_roundg (gk - 1)
            case measure => have := HGC.out; omega
            case rel => exact ⟨c + 1, ab', cb', by have := HGC.out; omega, by go_num, by rw [HBE.out, HNB.out], HE8.out, by rw [HBE.out, HNB.out]; exact HO8.out, by rw [HBE.out, HNB.out]; exact HSQ.out, HL8.out⟩
          · have HO9 := Lib.hid fun (o : Obj) => own_ext HO8.out (ext_al (Ext.refl w8) o)
            have hs8 := HE8.out.size
            go_wp2_with (at_builtin; go_must (refine wpl_append rfl rfl Tryz.slSpots w5.heap.size rfl (HO9.out _) rfl (Row.newK _ _ 2 _ _ rfl rfl) (by intro u hu; simp only [List.mem_cons, List.not_mem_nil, or_false] at hu; rcases hu with rfl | rfl <;> rfl) (by unfold maxLen; omega) (by omega) (by simp; omega) ?_))
            intro vA wA hownA hgA hbA _
            obtain ⟨aA, cA, rfl, _⟩ := id hownA.row
            have hAA := ext_al (Ext.refl w8) (Obj.cells #[.int .i64 n, .int .i64 (c : Int)] 59)
            have HEA := Lib.hid (show Ext w5 wA from Below.grown (HE8.out.trans hAA) hgA (HE8.out.trans hAA).size (fun b hb => ((HO9.out (Obj.cells #[] 0)).lt b hb).1))
            have hbe := HYS.out (by first | rfl | trivial)
            have hbl3 : (behN F n (c + 1)).length = nB + 1 := by rw [hbe, List.length_append, HNB.out]; rfl
            have HOA := Lib.hid (show wA.ownsRow w5.heap.size 59 2 (.slice aA (nX + nB + 1) cA) (nX + nB + 1) ((X ++ behN F n (c + 1)).flatMap spc) from by
              have e1 : (X ++ behN F n (c + 1)).flatMap spc = X.flatMap spc ++ ((behN F n c).flatMap spc ++ [.int .i64 n, .int .i64 (c : Int)]) := by rw [hbe]; simp [spc]
              rw [e1]
              exact hownA)
            have HLA := Lib.hid (own_grown (own_ext HL8.out hAA) hgA (by
              cases hv : (Value.slice a6 np c6).ownBlock with
              | none => exact .inl rfl
              | some b => exact .inr fun e => HSQ.out b e.symm hv))
            have HSA := Lib.hid (show ∀ b, (Value.slice aA (nX + nB + 1) cA).ownBlock = some b → (Value.slice a6 np c6).ownBlock ≠ some b from fun b h1 h2 => by
              rcases hbA with h | h
              · rw [h] at h1; exact HSQ.out b h1 h2
              · rw [h] at h1
                injection h1 with h1
                have := (HL8.out.lt b h2).2
                first | omega | (simp at h1; omega))
            have HB3 := Lib.hid hbl3
            clear hownA hgA hbA hAA hbe hbl3
            go_wp2_with fail
            go_roundg (gk - 1)
            case measure => have := HGC.out; omega
            case rel => exact ⟨c + 1, aA, cA, by have := HGC.out; omega, by go_num, by rw [HB3.out]; rfl, HEA.out, by rw [HB3.out]; exact HOA.out, by rw [HB3.out]; exact HSA.out, HLA.out⟩
        · have hcn : c = N := by have := HGC.out; omega
          have hcI : ¬ (c : Int) < (N : Int) := by omega
          have hlen : (behL F N (ns.take (i + 1))).length = nX + (behN F n c).length := by rw [HSC.out, List.length_append, HNX2.out, hcn]
          have HFL := Lib.hid hlen
          have HOF := Lib.hid (show wr.ownsRow w5.heap.size 59 2 (.slice ab' (nX + (behN F n c).length) cb') (nX + (behN F n c).length) ((behL F N (ns.take (i + 1))).flatMap spc) from by
            rw [HSC.out, ← hcn]
            exact hO)
          clear hgc hE hO hSep hL hcn hlen
          go_wp2_with fail
          go_roundg (G0 - 1)
          case measure => have := HGI.out; omega
          case rel => exact ⟨i + 1, ab', cb', by have := HGI.out; omega, by go_num, by rw [HFL.out], HEQ.out, by rw [HFL.out]; exact HOF.out⟩
    · have hin : i = ns.length := by have := HGI.out; omega
      have hiI : ¬ (i : Int) < (ns.length : Int) := by omega
      have HOF := Lib.hid (show wr.ownsRow w5.heap.size 59 2 (.slice ab (behL F N (ns.take i)).length cb) (behL F N ns).length ((behL F N ns).flatMap spc) from by
        have h := hO
        rw [hin, List.take_length] at h ⊢
        exact h)
      have HEF := Lib.hid (HE.out.trans (HY5.out.trans hE))
      have hs5 := (HE.out.trans HY5.out).size
      clear hgi hE hO hin
      go_wp2
      go_ret2
      exact ⟨_, rfl, own_down HOF.out hs5, HEF.out⟩

end Go.Proofs.YtbmimdnpchldlaaGreatDoor

namespace Go.Proofs.YtbmimdnpchldlaaGreatDoor
open Go.RowKit

/-- What leads on; where it begins; what may be a spot; its sets. -/
def bX (m : Md) (P : List Tm) (t : Tm) (x : Sp2) : List Sp2 := behL (folX m P t x.1 x.2.toNat) (2 ^ cntA t.flat) (nextL m x.1)
def iX (m : Md) (P : List Tm) (t : Tm) : List Sp2 := begL m.first (letS P (valsL m.vars m.first)) t (2 ^ cntA t.flat)
def oX (m : Md) (t : Tm) (x : Sp2) : Prop := 0 ≤ x.1 ∧ x.1 < countL m.vars ∧ 0 ≤ x.2 ∧ x.2 < ((2 ^ cntA t.flat : Nat) : Int)
def sX (m : Md) (P : List Tm) (t : Tm) (x : Sp2) : Int := (meUp t.flat (t.ends 0) (tvT (letS P (valsL m.vars x.1)) x.2.toNat t 0) t.flat.length : Nat)

theorem iX_nodup (m : Md) (P : List Tm) (t : Tm) : (iX m P t).Nodup := by
  unfold iX begL
  rw [List.Nodup, List.pairwise_map]
  refine ((List.nodup_range (n := 2 ^ cntA t.flat)).filter _).imp fun h e => h ?_
  have e2 := congrArg Prod.snd e
  exact Int.ofNat.inj e2
theorem iX_ok {m : Md} {P : List Tm} {t : Tm} (hk : TkOk m P t) : ∀ x ∈ iX m P t, oX m t x := by
  intro x hx
  unfold iX begL at hx
  obtain ⟨c, hc, rfl⟩ := List.mem_map.1 hx
  have h1 := List.mem_range.1 (List.mem_filter.1 hc).1
  have h2 := codeL_bd hk.ok.vars (inits_in hk.ok.vars)
  exact ⟨h2.1, h2.2, by omega, by show (c : Int) < _; omega⟩
theorem bX_ok {m : Md} {P : List Tm} {t : Tm} (hk : TkOk m P t) {x : Sp2} (hx : oX m t x) : ∀ y ∈ bX m P t x, oX m t y := by
  intro y hy
  unfold bX behL at hy
  obtain ⟨n, hn, hy⟩ := List.mem_flatMap.1 hy
  unfold behN at hy
  obtain ⟨c, hc, rfl⟩ := List.mem_map.1 hy
  have h1 := List.mem_range.1 (List.mem_filter.1 hc).1
  have h2 := NextP.in hk.ok.toPre hx.1 hx.2.1 (((nextL_ok m x.1).mem n).1 hn)
  exact ⟨h2.1, h2.2, by omega, by show (c : Int) < _; omega⟩

theorem bX_len {m : Md} {P : List Tm} {t : Tm} (hk : TkOk m P t) (x : Sp2) : (bX m P t x).length ≤ 768 := by
  have h1 := behL_len (folX m P t x.1 x.2.toNat) (2 ^ cntA t.flat) (nextL m x.1)
  have h2 : (nextL m x.1).length ≤ 12 := by
    have := (nextL_len m x.1).2
    have := hk.ok.twelve
    omega
  have h3 : 2 ^ cntA t.flat ≤ 64 := by
    have := Nat.pow_le_pow_right (n := 2) (by omega) hk.ff.cnt
    simpa using this
  have h4 := Nat.mul_le_mul h2 h3
  unfold bX
  omega

section
variable {τ : Nat → Nat} {B A M : Nat} {w0 w wa w' : World} {sp nx st : Value} {ini many : Int} {S : List Sp2} {L : List (List Int)} {T : List Int}
theorem ABox.retag (h : ABox τ B A M w0 w sp nx st ini many S L T) (t : Nat) : ABox (tagAt τ w.heap.size t) B A M w0 w sp nx st ini many S L T := ⟨h.m.retag t, h.a, h.mp, h.alt, h.mlt, h.ne, h.alo, h.mlo, h.e⟩
theorem ABox.app5 (h : ABox τ B A M w0 w sp nx st ini many S L T) {lv lv' : Value} {n n' : Nat} {xs xs' : List Value} (hc : OwnT τ 5 w B 3 1 lv n xs) (hg : w.grownBy w' lv.ownBlock)
    (ho : w'.ownsRow B 3 1 lv' n' xs') (hb : lv'.ownBlock = lv.ownBlock ∨ lv'.ownBlock = some w.heap.size) :
    ABox (tagAt τ w.heap.size 5) B A M w0 w' sp nx st ini many S L T ∧ OwnT (tagAt τ w.heap.size 5) 5 w' B 3 1 lv' n' xs' ∧ ∀ P, Ent τ 8 w P → Ent (tagAt τ w.heap.size 5) 8 w' P := by
  obtain ⟨vs, h1, h2⟩ := h.m.nx
  have hlow : ∀ k, k < B → some k ≠ lv.ownBlock := fun k hk e => by have := (hc.own.lt k e.symm).1; omega
  have hA := h.alt
  have hM := h.mlt
  refine ⟨⟨⟨fun b hb => by have := h.m.size; rw [tagAt_lt (by omega)]; exact h.m.lo b hb, Nat.le_trans h.m.size hg.size, h.m.sp.other hc hg (by omega), ⟨vs, h1.other hc hg (by omega), h2.app hc hg (by omega)⟩, h.m.st.other hc hg (by omega)⟩,
    blk_grown h.a hg (hlow A hA), h.mp.grown hg (hlow M hM), hA, hM, h.ne, h.alo, h.mlo, ?_⟩, hc.app ho hb, fun P hP => hP.app hc hg (by omega)⟩
  exact Below.grown h.e hg h.e.size (fun b hb => by have := (hc.own.lt b hb).1; have := h.alo; omega)

theorem ABox.start (w : World) (ini many : Int) (M : Nat) (hM : M = w.heap.size) :
    ABox (fun _ => 0) (M + 2) (M + 1) M w ((w.alloc (Obj.map #[] 0)).alloc (Obj.cells #[.slice none 0 0, .int .i64 ini, .slice none 0 0, .slice none 0 0, .int .i64 many, .map (some M)] 104)) (.slice none 0 0) (.slice none 0 0) (.slice none 0 0) ini many [] [] [] := by
  subst hM
  have h1 := ext_al (Ext.refl (w.alloc (Obj.map #[] 0))) (Obj.cells #[.slice none 0 0, .int .i64 ini, .slice none 0 0, .slice none 0 0, .int .i64 many, .map (some w.heap.size)] 104)
  have h2 := blk_new (w.alloc (Obj.map #[] 0)) (Obj.cells #[.slice none 0 0, .int .i64 ini, .slice none 0 0, .slice none 0 0, .int .i64 many, .map (some w.heap.size)] 104)
  rw [World.size_alloc] at h2
  exact ⟨GMem.nil _ _ (by simp), h2, (MapG.new encSp w).ext h1, by omega, by omega, by omega, by omega, Nat.le_refl _, (ext_al (Ext.refl w) _).trans h1⟩

/-- What grew has grown: its tag is the lists'. -/
def tag53 (τ : Nat → Nat) : Nat → Nat := fun b => if τ b = 5 then 3 else τ b
theorem OwnT.t53 {t : Nat} {e : TypeId} {size n : Nat} {v : Value} {xs : List Value} (h : OwnT τ t w B e size v n xs) (ht : t ≠ 5) : OwnT (tag53 τ) t w B e size v n xs := ⟨h.own, fun b hb => by
  have := h.tag b hb
  unfold tag53
  rw [this, if_neg ht]⟩
theorem Ent.t53 {P : World → Prop} (h : Ent τ 3 w P) : Ent (tag53 τ) 3 w P := fun x hx hb => h x hx fun b h1 h2 => hb b h1 (by unfold tag53; rw [h2]; rfl)
theorem Ent.t55 {P : World → Prop} (h : Ent τ 5 w P) : Ent (tag53 τ) 3 w P := fun x hx hb => h x hx fun b h1 h2 => hb b h1 (by unfold tag53; rw [if_pos h2])
theorem ABox.t53 (h : ABox τ B A M w0 w sp nx st ini many S L T) : ABox (tag53 τ) B A M w0 w sp nx st ini many S L T := by
  obtain ⟨vs, h1, h2⟩ := h.m.nx
  exact ⟨⟨fun b hb => by unfold tag53; rw [h.m.lo b hb]; rfl, h.m.size, h.m.sp.t53 (by omega), ⟨vs, h1.t53 (by omega), h2.t53⟩, h.m.st.t53 (by omega)⟩, h.a, h.mp, h.alt, h.mlt, h.ne, h.alo, h.mlo, h.e⟩

theorem ABox.pushNx (h : ABox τ B A M w0 w sp nx st ini many S L T) (hal : Ext w wa) {v' u : Value} {l : List Int} {n : Nat} {vs xs : List Value} (h1 : OwnT τ 2 w B 27 1 nx L.length vs) (h2 : Ent τ 3 w fun x => Each x vs L) (hu : Ent τ 3 w fun x => Ints x u l)
    (ho : w'.ownsRow B 27 1 v' n xs) (hn : n = L.length + 1) (hx : xs = vs ++ [u]) (hg : wa.grownBy w' nx.ownBlock) (hb : v'.ownBlock = nx.ownBlock ∨ v'.ownBlock = some wa.heap.size) :
    w'.heap[A]? = some (.cells #[sp, .int .i64 ini, nx, st, .int .i64 many, .map (some M)] 104 (0, 0)) ∧ ∃ τ', ABox τ' B A M w0 (w'.setCell ⟨A, 2, none⟩ v') sp v' st ini many S (L ++ [l]) T := by
  have hA := h.alt
  have hM := h.mlt
  have hne := h.ne
  have hlow : ∀ k, k < B → some k ≠ nx.ownBlock := fun k hk e => by have := (h1.own.lt k e.symm).1; omega
  have hA8 := blk_grown (blk_ext h.a hal) hg (hlow A hA)
  refine ⟨hA8, _, ⟨((h.m.ext hal).appNx (h1.ext hal) (h2.ext hal) (hu.ext hal) ho hn hx hg hb).low (p := ⟨A, 2, none⟩) hA v', blk_set hA8 (i := 2) v', ((h.mp.ext hal).grown hg (hlow M hM)).set (p := ⟨A, 2, none⟩) (Ne.symm hne) v', hA, hM, hne, h.alo, h.mlo, ?_⟩⟩
  exact ext_st ((h.e.trans hal).grown hg (h.e.trans hal).size (fun b hb => by have := (h1.own.lt b hb).1; have := h.alo; omega)) (p := ⟨A, 2, none⟩) h.alo v'
theorem ABox.pushSt (h : ABox τ B A M w0 w sp nx st ini many S L T) (hal : Ext w wa) {v' : Value} {n : Nat} {xs : List Value} {x : Int} (ho : w'.ownsRow B 3 1 v' n xs) (hn : n = T.length + 1) (hx : xs = T.map (.int .i64) ++ [.int .i64 x])
    (hg : wa.grownBy w' st.ownBlock) (hb : v'.ownBlock = st.ownBlock ∨ v'.ownBlock = some wa.heap.size) :
    w'.heap[A]? = some (.cells #[sp, .int .i64 ini, nx, st, .int .i64 many, .map (some M)] 104 (0, 0)) ∧ ∃ τ', ABox τ' B A M w0 (w'.setCell ⟨A, 3, none⟩ v') sp nx v' ini many S L (T ++ [x]) := by
  have hA := h.alt
  have hM := h.mlt
  have hne := h.ne
  have hlow : ∀ k, k < B → some k ≠ st.ownBlock := fun k hk e => by have := (h.m.st.own.lt k e.symm).1; omega
  have hA8 := blk_grown (blk_ext h.a hal) hg (hlow A hA)
  refine ⟨hA8, _, ⟨((h.m.ext hal).appSt ho hn hx hg hb).low (p := ⟨A, 3, none⟩) hA v', blk_set hA8 (i := 3) v', ((h.mp.ext hal).grown hg (hlow M hM)).set (p := ⟨A, 3, none⟩) (Ne.symm hne) v', hA, hM, hne, h.alo, h.mlo, ?_⟩⟩
  exact ext_st ((h.e.trans hal).grown hg (h.e.trans hal).size (fun b hb => by have := (h.m.st.own.lt b hb).1; have := h.alo; omega)) (p := ⟨A, 3, none⟩) h.alo v'
end

theorem spotsX_at {w : World} {a : Option Addr} {n c : Nat} {l : List (Int × Int)} (h : Row w 2 a n c (l.flatMap spc)) : ∃ b off, (0 < l.length → a = some ⟨b, off, none⟩) ∧ ∀ (i : Nat) (hi : i < l.length), w.cell? ⟨b, off + i * 2, none⟩ = some (.int .i64 l[i].1) ∧ w.cell? ⟨b, off + i * 2 + 1, none⟩ = some (.int .i64 l[i].2) := by
  obtain ⟨b, off, _, h2, h3⟩ := h.lie
  have key : ∀ (l : List (Int × Int)) (i : Nat) (hi : i < l.length), (l.flatMap spc)[i * 2]? = some (.int .i64 l[i].1) ∧ (l.flatMap spc)[i * 2 + 1]? = some (.int .i64 l[i].2) := by
    intro l
    induction l with
    | nil => intro i hi; simp at hi
    | cons x r ih =>
      intro i hi
      cases i with
      | zero => simp [spc]
      | succ i =>
        have := ih i (by simpa using hi)
        simp only [List.flatMap_cons, spc]
        rw [show (i + 1) * 2 = i * 2 + 2 by omega, show i * 2 + 2 + 1 = (i * 2 + 1) + 2 by omega]
        simpa using this
  refine ⟨b, off, fun hl => h2 ?_, fun i hi => ⟨h3 _ _ (key l i hi).1, ?_⟩⟩
  · have := (key l 0 hl).1
    exact getElem?_pos this
  · have := h3 _ _ (key l i hi).2
    rwa [← Nat.add_assoc] at this

/-- What Explore answers. -/
def ExplR (m : Md) (P : List Tm) (t : Tm) (w : World) (e : Ending) (w' : World) : Prop :=
  ∃ (τ : Nat → Nat) (sp nx st : Value) (X : List Sp2) (L : List (List Int)), e = .returned (.tuple #[.agg #[sp, .int .i64 ((iX m P t).length : Int), nx, st, .int .i64 (cntA t.flat : Int)], .int .i64 0]) ∧
    GMem τ w.heap.size w' sp nx st X L (X.map (sX m P t)) ∧ XDone (bX m P t) (oX m t) (iX m P t) X L ∧ Ext w w'

theorem place_any (τ : Nat → Nat) (B A M : Nat) (w0 w : World) (sp nx st : Value) (ini many : Int) (S : List Sp2) (L : List (List Int)) (T : List Int) (s : Sp2) (h : ABox τ B A M w0 w sp nx st ini many S L T) (hl : S.length < 20000 ∨ s ∈ S) :
    Calls Tryz.prog 44 #[.pointer (some ⟨A, 0, none⟩), .agg #[.int .i64 s.1, .int .i64 s.2]] w (PlaceR τ B A M w0 w nx st ini many S L T s) := by
  by_cases hs : s ∈ S
  · exact place_old τ B A M w0 w sp nx st ini many S L T s h hs
  · exact place_new τ B A M w0 w sp nx st ini many S L T s h hs (hl.resolve_right hs)

theorem XInv.put {BF : Sp2 → List Sp2} {O : Sp2 → Prop} {I X : List Sp2} {nx : List (List Int)} {cur : List Int} {t : Nat} (h : XInv BF O I X nx cur t) {x : Sp2} (hx : X[nx.length]? = some x) {y : Sp2} (hy : (BF x)[t]? = some y) (ho : O y) {n : Nat} {S' : List Sp2} (hn : S'[n]? = some y)
    (hS : S' = X ∨ y ∉ X ∧ S' = X ++ [y] ∧ n = X.length) : XInv BF O I S' nx (cur ++ [(n : Int)]) (t + 1) ∧ S'[nx.length]? = some x ∧ S'.take nx.length = X.take nx.length := by
  rcases hS with rfl | ⟨h1, rfl, rfl⟩
  · exact ⟨h.old hx hy hn, hx, rfl⟩
  · have hl := (List.getElem?_eq_some_iff.1 hx).1
    exact ⟨h.grow hx hy h1 ho, by rw [List.getElem?_append_left hl]; exact hx, List.take_append_of_le_length h.le⟩

/-- A row that grows, behind place. -/
theorem OwnT.placed {τ τ' : Nat → Nat} {w w' : World} {B : Nat} {e : TypeId} {size n t : Nat} {v : Value} {xs : List Value} (h : OwnT τ t w B e size v n xs) (h0 : t ≠ 0) (h1 : t ≠ 1) (ht : ∀ b, b < w.heap.size → τ' b = τ b)
    (hk : ∀ (t : Nat) (P : World → Prop), t ≠ 0 → t ≠ 1 → Ent τ t w P → Ent τ' t w' P) : OwnT τ' t w' B e size v n xs :=
  ⟨(hk t _ h0 h1 h.ent).now, fun b hb => (ht b (h.own.lt b hb).2).trans (h.tag b hb)⟩

/-- A place for one more, as long as all spots lie below two bounds. -/
theorem room {BF : Sp2 → List Sp2} {I X : List Sp2} {nx : List (List Int)} {cur : List Int} {t : Nat} {C N : Nat} (h : XInv BF (fun x => 0 ≤ x.1 ∧ x.1 < (C : Int) ∧ 0 ≤ x.2 ∧ x.2 < (N : Int)) I X nx cur t) (hCN : C * N ≤ 20000) {y : Sp2} (hy : 0 ≤ y.1 ∧ y.1 < (C : Int) ∧ 0 ≤ y.2 ∧ y.2 < (N : Int)) : X.length < 20000 ∨ y ∈ X := by
  by_cases hm : y ∈ X
  · exact .inr hm
  · left
    have := pairs_bound C N (X := X ++ [y]) (by
      rw [List.nodup_append]
      refine ⟨h.nd, by simp, ?_⟩
      intro a ha b hb e
      simp at hb
      subst hb; subst e
      exact hm ha) (fun x hx => by
      rcases List.mem_append.1 hx with hx | hx
      · exact h.ok x hx
      · simp at hx; subst hx; exact hy)
    simp at this
    omega

end Go.Proofs.YtbmimdnpchldlaaGreatDoor

namespace Go.Proofs.YtbmimdnpchldlaaGreatDoor
open Go.RowKit

set_option maxRecDepth 100000 in
set_option maxHeartbeats 16000000 in
theorem explore_any (vv rv pv fv : Value) (m : Md) (P : List Tm) (t : Tm) (w : World) (h : IsTask w vv rv pv fv m P t) (ht : Tab w) (hk : TkOk m P t) (C : Nat) (hC : countL m.vars = (C : Int)) (hCN : C * 2 ^ cntA t.flat ≤ 20000) :
    Calls Tryz.prog 21 #[.agg #[vv, rv, pv, fv]] w (ExplR m P t w) := by
  have HBE := Lib.hid fun wx (hx : Ext w wx) => (show Calls Tryz.prog 42 #[.agg #[vv, rv, pv, fv]] wx fun e w' => ∃ v, e = .returned (.tuple #[v, .int .i64 0]) ∧
      w'.ownsRow wx.heap.size 59 2 v (iX m P t).length ((iX m P t).flatMap spc) ∧ Ext wx w' from begin_any vv rv pv fv m P t wx (h.ext hx) (ht.ext hx) hk)
  have HPL := Lib.hid fun wx (hx : Ext w wx) => places_any fv t.flat (P.length : Int) t wx (h.fo.ext hx) (ht.ext hx) hk.ff
  have HPN := Lib.hid (plL_len t.flat)
  have hc6 := hk.ff.cnt
  have HLE := Lib.hid fun (n : Int) wx (hx : Ext w wx) (hn : 0 ≤ n ∧ n < countL m.vars) => sletter_any vv rv pv m P n wx (h.md.ext hx) (ht.ext hx) hk.ok (h.pr.ext hx) hk.pk hn.1 hn.2
  have HLL := Lib.hid fun n => letS_len P (valsL m.vars n)
  have HME := Lib.hid fun (vl : Value) (n : Int) (c : Nat) wx (hx : Ext w wx) (hL : Bools wx vl (letS P (valsL m.vars n))) (hc : c < 2 ^ cntA t.flat) => (show Calls Tryz.prog 45 #[fv, vl, .int .i64 (c : Int)] wx fun e w' => e = .returned (.tuple #[.int .i64 (sX m P t (n, (c : Int))), .int .i64 0]) ∧ Ext wx w' from
    meets_any fv t.flat t vl (letS P (valsL m.vars n)) c wx (h.fo.ext hx) (ht.ext hx) (by rw [letS_len]; exact hk.ff) hL hc)
  have HBH := Lib.hid fun (n : Int) (c : Nat) wx (hx : Ext w wx) (hn : 0 ≤ n ∧ n < countL m.vars) (hc : c < 2 ^ cntA t.flat) => (show Calls Tryz.prog 46 #[.agg #[vv, rv, pv, fv], .agg #[.int .i64 n, .int .i64 (c : Int)]] wx fun e w' => ∃ v, e = .returned (.tuple #[v, .int .i64 0]) ∧
      w'.ownsRow wx.heap.size 59 2 v (bX m P t (n, (c : Int))).length ((bX m P t (n, (c : Int))).flatMap spc) ∧ Ext wx w' from pbehind_any vv rv pv fv m P t n c wx (h.ext hx) (ht.ext hx) hk hn.1 hn.2 hc)
  have HIN := Lib.hid (iX_nodup m P t)
  have HIO := Lib.hid (iX_ok hk)
  have HBO := Lib.hid fun x (hx : oX m t x) => bX_ok hk hx
  have HBN := Lib.hid fun x => bX_len hk (P := P) x
  unfold ExplR
  unfold oX at HIO HBO ⊢
  rw [hC] at HLE HBH HIO HBO ⊢
  obtain ⟨N, hN⟩ : ∃ x, 2 ^ cntA t.flat = x := ⟨_, rfl⟩
  rw [hN] at hCN HME HBH HIO HBO ⊢
  obtain ⟨k, hk6⟩ : ∃ x, cntA t.flat = x := ⟨_, rfl⟩
  rw [hk6] at HPN hc6 ⊢
  obtain ⟨I, hI⟩ : ∃ x, iX m P t = x := ⟨_, rfl⟩
  rw [hI] at HBE HIN HIO ⊢
  obtain ⟨BF, hBF⟩ : ∃ x, bX m P t = x := ⟨_, rfl⟩
  rw [hBF] at HBH HBO HBN ⊢
  obtain ⟨SF, hSF⟩ : ∃ x, sX m P t = x := ⟨_, rfl⟩
  rw [hSF] at HME ⊢
  obtain ⟨LT, hLT⟩ : ∃ LT : Int → List Bool, (fun n => letS P (valsL m.vars n)) = LT := ⟨_, rfl⟩
  have hLTa : ∀ n, letS P (valsL m.vars n) = LT n := fun n => by rw [← hLT]
  simp only [hLTa] at HLE HME HLL
  obtain ⟨av, cv, ar, cr, ap, cp, af, nf, cf, rfl, rfl, rfl, rfl⟩ := h.val
  have HCN := Lib.hid hCN
  have hIl : I.length ≤ 20000 := Nat.le_trans (pairs_bound C N (X := I) HIN.out (fun x hx => HIO.out x hx)) hCN
  have hp6 := hk.pk.six
  clear h ht hk hC hCN hN hk6 hI hBF hSF hLT hLTa
  generalize m.vars.length = nv at *
  generalize m.rules.length = nr at *
  generalize P.length = np at *
  have hb := blk_new w (Obj.cells #[.slice av nv cv, .slice ar nr cr, .slice ap np cp, .slice af nf cf] 35)
  have hx := ext_al (Ext.refl (w.alloc (Obj.cells #[.slice av nv cv, .slice ar nr cr, .slice ap np cp, .slice af nf cf] 35))) (Obj.cells #[.slice none 0 0, .int .i64 0, .slice none 0 0, .slice none 0 0, .int .i64 0] 44)
  have hb2 := blk_new (w.alloc (Obj.cells #[.slice av nv cv, .slice ar nr cr, .slice ap np cp, .slice af nf cf] 35)) (Obj.cells #[.slice none 0 0, .int .i64 0, .slice none 0 0, .slice none 0 0, .int .i64 0] 44)
  rw [World.size_alloc] at hb2
  have HE := Lib.hid ((ext_al (Ext.refl w) (Obj.cells #[.slice av nv cv, .slice ar nr cr, .slice ap np cp, .slice af nf cf] 35)).trans hx)
  have HB := Lib.hid (blk_ext hb hx)
  have HR := Lib.hid hb2
  have d0 := blk_cell HB.out (i := 0) rfl
  have d1 := blk_cell HB.out (i := 1) rfl
  have d2 := blk_cell HB.out (i := 2) rfl
  have d3 := blk_cell HB.out (i := 3) rfl
  clear hb hx hb2
  go_enter Tryz.func21, Tryz.ntmps21
  go_wp2_with fail
  generalize (w.alloc (Obj.cells #[.slice av nv cv, .slice ar nr cr, .slice ap np cp, .slice af nf cf] 35)).alloc (Obj.cells #[.slice none 0 0, .int .i64 0, .slice none 0 0, .slice none 0 0, .int .i64 0] 44) = W0 at *
  refine (HBE.out _ HE.out).mono ?_
  rintro e w1 ⟨v1, rfl, ho1, hE1⟩
  obtain ⟨a1, c1, rfl, _⟩ := id ho1.row
  have HO1 := Lib.hid ho1
  have HX1 := Lib.hid hE1
  have hb1 := blk_ext HB.out hE1
  have d2 := blk_cell hb1 (i := 2) rfl
  have d3 := blk_cell hb1 (i := 3) rfl
  clear ho1 hE1 hb1 d0 d1 HBE
  go_wp2_with fail
  refine (HPL.out _ (HE.out.trans HX1.out)).mono ?_
  rintro e w2 ⟨a2, c2, rfl, ho2, hE2⟩
  rw [HPN.out]
  have HX2 := Lib.hid (HX1.out.trans hE2)
  have HO2 := Lib.hid (own_ext HO1.out hE2)
  have HAB := Lib.hid (ABox.start w2 (I.length : Int) (k : Int) w2.heap.size rfl)
  clear hE2 ho2 d2 d3 HPL HO1 HX1 HPN
  have hmm := @run_makeMap Tryz.prog
  go_wp2_with fail
  have HMM := Lib.hid (Nat.le_refl w2.heap.size)
  generalize (w2.alloc (Obj.map #[] 0)).alloc (Obj.cells #[.slice none 0 0, .int .i64 (I.length : Int), .slice none 0 0, .slice none 0 0, .int .i64 (k : Int), .map (some w2.heap.size)] 104) = W3 at *
  generalize hMs : w2.heap.size = M at *
  have HMS := Lib.hid hMs
  clear hMs
  go_loopg [59] I.length (fun g x wr => ∃ (i : Nat) (τ : Nat → Nat) (sp : Value), g + i = I.length ∧ x = .int .i64 (i : Int) ∧ ABox τ (M + 2) (M + 1) M w2 wr sp (.slice none 0 0) (.slice none 0 0) (I.length : Int) (k : Int) (I.take i) [] [])
  case atStart => exact ⟨0, _, _, by omega, by go_num, HAB.out⟩
  case round =>
    obtain ⟨i, τ, sp, hgi, rfl, hA⟩ := hrel
    have HGI := Lib.hid hgi
    have HA := Lib.hid hA
    clear hgi HAB
    by_cases hi : i < I.length
    · obtain ⟨_, _, e1, hr⟩ := id (own_ext HO2.out hA.e).row
      simp only [Value.slice.injEq] at e1
      obtain ⟨rfl, -, rfl⟩ := e1
      obtain ⟨bS, oS, s1, s2⟩ := spotsX_at hr
      obtain rfl := s1 (by omega)
      obtain ⟨c0, c1⟩ := s2 i hi
      have hcap := hr.le
      have HNI := Lib.hid (show I[i] ∉ I.take i from fun hm => by
        obtain ⟨j, hj, e⟩ := List.mem_iff_getElem.1 hm
        rw [List.length_take] at hj
        rw [List.getElem_take] at e
        have := nodup_at HIN.out (i := j) (j := i) (by rw [List.getElem?_eq_getElem (by omega), e]) (List.getElem?_eq_getElem hi)
        omega)
      have HTK := Lib.hid (show I.take (i + 1) = I.take i ++ [I[i]] from List.take_succ_eq_append_getElem hi)
      have HLT := Lib.hid (show (I.take i).length < 20000 from by
        rw [List.length_take]
        omega)
      have hiI : (i : Int) < (I.length : Int) := by omega
      have hi0 : (0 : Int) ≤ (i : Int) := by omega
      have hx3 := ext_al (Ext.refl wr) (Obj.cells #[.int .i64 I[i].1, .int .i64 I[i].2] 59)
      have hb3 := blk_new wr (Obj.cells #[.int .i64 I[i].1, .int .i64 I[i].2] 59)
      have HPC := Lib.hid (place_any τ (M + 2) (M + 1) M w2 _ sp _ _ _ _ _ _ _ I[i] (hA.ext hx3) (.inl HLT.out))
      have b0 := blk_cell hb3 (i := 0) rfl
      have b1 := blk_cell hb3 (i := 1) rfl
      generalize I[i] = s at *
      clear hA hr s1 s2 hx3 hb3
      go_wp2_with fail
      refine HPC.out.mono ?_
      rintro e w5 ⟨n, S', sp', τ', rfl, hn, hS, hA5, -, -, -⟩
      obtain rfl : S' = I.take (i + 1) := by
        rcases hS with rfl | ⟨_, rfl, _⟩
        · exact absurd (List.mem_of_getElem? hn) HNI.out
        · exact HTK.out.symm
      have HA5 := Lib.hid hA5
      clear hn hS hA5 c0 c1 b0 b1
      go_wp2_with fail
      go_roundg (gk - 1)
      case measure => have := HGI.out; omega
      case rel => exact ⟨i + 1, _, _, by have := HGI.out; omega, by go_num, HA5.out⟩
    · obtain rfl : i = I.length := by have := HGI.out; omega
      have hiI : ¬ (I.length : Int) < (I.length : Int) := by omega
      rw [List.take_length] at hA
      have HAI := Lib.hid hA
      have HX0 := Lib.hid (show XInv BF (fun x => 0 ≤ x.1 ∧ x.1 < (C : Int) ∧ 0 ≤ x.2 ∧ x.2 < (N : Int)) I I [] [] 0 from XInv.start HIN.out HIO.out)
      clear hA HA HGI
      go_wp2_with fail
      go_loopg [11] 20001 (fun g x wr => ∃ (i : Nat) (τ : Nat → Nat) (sp nx st : Value) (X : List Sp2) (L : List (List Int)), g + i = 20001 ∧ x = .int .i64 (i : Int) ∧ L.length = i ∧ ABox τ (M + 2) (M + 1) M w2 wr sp nx st (I.length : Int) (k : Int) X L ((X.take i).map SF) ∧ XInv BF (fun x => 0 ≤ x.1 ∧ x.1 < (C : Int) ∧ 0 ≤ x.2 ∧ x.2 < (N : Int)) I X L [] 0)
      case atStart => exact ⟨0, _, _, _, _, I, [], by omega, by go_num, rfl, HAI.out, HX0.out⟩
      case round =>
        obtain ⟨i, τ, sp, nx, st, X, L, hgi, rfl, hLi, hA, hI⟩ := hrel
        subst hLi
        obtain ⟨T, hTe⟩ : ∃ T, (X.take L.length).map SF = T := ⟨_, rfl⟩
        rw [hTe] at hA
        have HTE := Lib.hid hTe
        have HGI := Lib.hid hgi
        have HA := Lib.hid hA
        have HXI := Lib.hid hI
        have hXl : X.length ≤ 20000 := Nat.le_trans (pairs_bound C N (X := X) hI.nd (fun x hx => hI.ok x hx)) HCN.out
        have hLX := hI.le
        obtain ⟨asp, csp, rfl, hrsp⟩ := hA.m.sp.own.row
        have a0 := blk_cell hA.a (i := 0) rfl
        clear HAI HX0 hgi
        by_cases hi : L.length < X.length
        · obtain ⟨bS, oS, s1, s2⟩ := spotsX_at hrsp
          obtain rfl := s1 (by omega)
          obtain ⟨c0, c1⟩ := s2 L.length hi
          have hxo := hI.ok X[L.length] (by simp)
          have HXG := Lib.hid (List.getElem?_eq_getElem hi)
          have hcap := hrsp.le
          generalize X[L.length] = x at *
          obtain ⟨x1, x2⟩ := x
          obtain ⟨c, rfl⟩ : ∃ c : Nat, x2 = (c : Int) := ⟨x2.toNat, by have := hxo.2.2.1; simp at this; omega⟩
          have hx1 : 0 ≤ x1 ∧ x1 < (C : Int) := ⟨hxo.1, hxo.2.1⟩
          have hcN : c < N := by have := hxo.2.2.2; simp at this; omega
          have HXO := Lib.hid hxo
          have hW2 := HX2.out.trans hA.e
          have hbt := blk_ext HB.out hW2
          have hx3 := ext_al (Ext.refl wr) (Obj.cells #[.int .i64 x1, .int .i64 (c : Int)] 59)
          have hb3 := blk_new wr (Obj.cells #[.int .i64 x1, .int .i64 (c : Int)] 59)
          have HBT := Lib.hid (blk_ext hbt hx3)
          have HB3 := Lib.hid hb3
          have HX3 := Lib.hid (HE.out.trans (hW2.trans hx3))
          have HA3 := Lib.hid (hA.ext hx3)
          have d0 := blk_cell HBT.out (i := 0) rfl
          have d1 := blk_cell HBT.out (i := 1) rfl
          have d2 := blk_cell HBT.out (i := 2) rfl
          have b0 := blk_cell HB3.out (i := 0) rfl
          have hiI : (L.length : Int) < (X.length : Int) := by omega
          have hi0 : (0 : Int) ≤ (L.length : Int) := by omega
          obtain ⟨nL, hnL⟩ : ∃ x, L.length = x := ⟨_, rfl⟩
          obtain ⟨nX, hnX⟩ : ∃ x, X.length = x := ⟨_, rfl⟩
          rw [hnL] at hi hiI hi0 c0 c1 hLX
          rw [hnX] at hi hiI hcap hLX hXl a0
          have HNL := Lib.hid hnL
          have HNX := Lib.hid hnX
          clear hxo hW2 hbt hx3 hb3 hrsp s1 s2 hI hA hTe
          go_wp2_with fail
          generalize wr.alloc (Obj.cells #[.int .i64 x1, .int .i64 (c : Int)] 59) = W3 at *
          refine (HLE.out x1 _ HX3.out hx1).mono ?_
          rintro e w4 ⟨v4, rfl, ho4, hE4⟩
          obtain ⟨a4, c4, rfl, _⟩ := id ho4.row
          have HBO4 := Lib.hid (show Bools w4 (.slice a4 np c4) (LT x1) from by
            have h := ho4.reads
            unfold Bools
            rw [HLL.out]
            exact h)
          have HX4 := Lib.hid (HX3.out.trans hE4)
          have HA4 := Lib.hid (HA3.out.ext hE4)
          have HBT4 := Lib.hid (blk_ext HBT.out hE4)
          have HB4 := Lib.hid (blk_ext HB3.out hE4)
          have d3 := blk_cell HBT4.out (i := 3) rfl
          have b1 := blk_cell HB4.out (i := 1) rfl
          clear ho4 hE4 a0 c0 c1 d0 d1 d2 b0 HX3 HA3 HBT HB3
          go_wp2_with fail
          refine (HME.out _ x1 c _ HX4.out HBO4.out hcN).mono ?_
          rintro e w5 ⟨rfl, hE5⟩
          have HX5 := Lib.hid (HX4.out.trans hE5)
          have HA5 := Lib.hid (HA4.out.ext hE5)
          have HBT5 := Lib.hid (blk_ext HBT4.out hE5)
          have HB5 := Lib.hid (blk_ext HB4.out hE5)
          have d0 := blk_cell HBT5.out (i := 0) rfl
          have d1 := blk_cell HBT5.out (i := 1) rfl
          have d2 := blk_cell HBT5.out (i := 2) rfl
          have e3 := blk_cell HBT5.out (i := 3) rfl
          have b0 := blk_cell HB5.out (i := 0) rfl
          have e1 := blk_cell HB5.out (i := 1) rfl
          clear hE5 d3 b1 HX4 HA4 HBT4 HB4 HBO4
          go_wp2_with fail
          refine (HBH.out x1 c _ HX5.out hx1 hcN).mono ?_
          rintro e w6 ⟨v6, rfl, ho6, hE6⟩
          obtain ⟨a6, c6, rfl, _⟩ := id ho6.row
          have hb768 := HBN.out (x1, (c : Int))
          obtain ⟨Y, hY⟩ : ∃ Y, BF (x1, (c : Int)) = Y := ⟨_, rfl⟩
          rw [hY] at ho6 hb768 ⊢
          have HY := Lib.hid hY
          have hA6 := (HA5.out.retag 8).ext hE6
          have ho8 := OwnT.fresh τ 8 ho6
          have HC0 := Lib.hid (OwnT.nil (tagAt τ w5.heap.size 8) 5 w6 (M + 2) 3 1)
          have HE8 := Lib.hid ho8.ent
          have HAI := Lib.hid hA6
          clear hE6 ho6 hY hA6 ho8 d0 d1 d2 e3 b0 e1 HX5 HA5 HBT5 HB5
          obtain ⟨H5, hH5⟩ : ∃ x, w5.heap.size = x := ⟨_, rfl⟩
          rw [hH5] at HE8 HC0 HAI
          clear hH5
          go_wp2_with fail
          obtain ⟨wo, rfl⟩ : ∃ wo : World, wo = wr := ⟨_, rfl⟩
          obtain ⟨G0, rfl⟩ : ∃ G0 : Nat, G0 = gk := ⟨_, rfl⟩
          go_loopg [112, 17] Y.length (fun g x y wq => ∃ (j : Nat) (τ' : Nat → Nat) (sp' : Value) (X' : List Sp2) (cur : List Int) (al : Option Addr) (cl : Nat), g + j = Y.length ∧ x = .int .i64 (j : Int) ∧ y = .slice al j cl ∧ cur.length = j ∧
            ABox τ' (M + 2) (M + 1) M w2 wq sp' nx st (I.length : Int) (k : Int) X' L T ∧ XInv BF (fun x => 0 ≤ x.1 ∧ x.1 < (C : Int) ∧ 0 ≤ x.2 ∧ x.2 < (N : Int)) I X' L cur j ∧ X'[L.length]? = some (x1, (c : Int)) ∧ X'.take L.length = X.take L.length ∧
            OwnT τ' 5 wq (M + 2) 3 1 (.slice al j cl) j (cur.map (.int .i64)) ∧ Ent τ' 8 wq (fun z => z.ownsRow H5 59 2 (.slice a6 Y.length c6) Y.length (Y.flatMap spc)))
          case atStart => exact ⟨0, _, _, X, [], none, 0, by omega, by go_num, rfl, rfl, HAI.out, HXI.out, HXG.out, rfl, HC0.out, HE8.out⟩
          case round =>
            obtain ⟨j, τ', sp', X', cur, al, cl, hgj, rfl, rfl, hcj, hA, hI, hx, hT, hO, hE⟩ := hrel
            have HGJ := Lib.hid hgj
            have HCJ := Lib.hid hcj
            have HXI' := Lib.hid hI
            have HXG' := Lib.hid hx
            have HTT := Lib.hid hT
            have HOO := Lib.hid hO
            have HAA := Lib.hid hA
            have HEE := Lib.hid hE
            clear hgj hcj hx hT HAI HC0 HE8
            by_cases hj : j < Y.length
            · obtain ⟨_, _, e1, hr⟩ := id hE.now.row
              simp only [Value.slice.injEq] at e1
              obtain ⟨rfl, -, rfl⟩ := e1
              obtain ⟨bS, oS, s1, s2⟩ := spotsX_at hr
              obtain rfl := s1 (by omega)
              obtain ⟨c0, c1⟩ := s2 j hj
              have hYj := List.getElem?_eq_getElem hj
              have hym := List.getElem_mem hj
              generalize Y[j] = y at *
              have hyo := HBO.out _ HXO.out y (by rw [HY.out]; exact hym)
              have HYO := Lib.hid hyo
              have HYJ := Lib.hid hYj
              have hx3 := ext_al (Ext.refl wr) (Obj.cells #[.int .i64 y.1, .int .i64 y.2] 59)
              have hb3 := blk_new wr (Obj.cells #[.int .i64 y.1, .int .i64 y.2] 59)
              have HPC := Lib.hid (place_any τ' (M + 2) (M + 1) M w2 _ sp' _ _ _ _ _ _ _ y (hA.ext hx3) (room hI HCN.out hyo))
              have b0 := blk_cell hb3 (i := 0) rfl
              have b1 := blk_cell hb3 (i := 1) rfl
              have HO3 := Lib.hid (hO.ext hx3)
              have HE3 := Lib.hid (hE.ext hx3)
              have hjI : (j : Int) < (Y.length : Int) := by omega
              have hj0 : (0 : Int) ≤ (j : Int) := by omega
              clear hr s1 s2 hx3 hb3 hyo hym hYj hI hA hO hE HAA HEE HOO
              go_wp2_with fail
              generalize wr.alloc (Obj.cells #[.int .i64 y.1, .int .i64 y.2] 59) = W7 at *
              refine HPC.out.mono ?_
              rintro e w7 ⟨n, S', sp7, τ7, rfl, hn, hS, hA7, ht7, hs7, hk7⟩
              obtain ⟨hI7, hx7, hT7⟩ := HXI'.out.put HXG'.out (by rw [HY.out]; exact HYJ.out) HYO.out hn hS
              have HA7 := Lib.hid hA7
              have HI7 := Lib.hid hI7
              have HX7 := Lib.hid hx7
              have HT7 := Lib.hid (hT7.trans HTT.out)
              have ho7 := HO3.out.placed (by omega) (by omega) ht7 hk7
              have HO7 := Lib.hid ho7
              have HE7 := Lib.hid (hk7 8 _ (by omega) (by omega) HE3.out)
              have hx8 := ext_al (Ext.refl w7) (Obj.cells #[.int .i64 (n : Int)] 3)
              have HX8 := Lib.hid hx8
              have HO8 := Lib.hid (ho7.ext hx8)
              have hsz := hA7.m.size
              clear hn hS hA7 ht7 hs7 hk7 hI7 hx7 hT7 ho7 hx8 c0 c1 b0 b1 HPC HO3 HE3
              go_wp2_with (at_builtin; go_must (refine wpl_append rfl rfl Tryz.slIntsG (M + 2) rfl HO8.out.own rfl (Row.oneG _ _ _ _ rfl) (one_int _) (by unfold maxLen; omega) (by omega) (by simp; omega) ?_))
              intro v9 w9 hown9 hg9 hb9 _
              obtain ⟨hA9, hO9, hk9⟩ := (HA7.out.ext HX8.out).app5 HO8.out hg9 hown9 (by rcases hb9 with h | h; exact .inl h; right; rw [h]; simp)
              obtain ⟨a9, c9, rfl, _⟩ := id hown9.row
              have HA9 := Lib.hid hA9
              have HO9 := Lib.hid hO9
              have HE9 := Lib.hid (hk9 _ (HE7.out.ext HX8.out))
              clear hown9 hg9 hb9 hA9 hO9 hk9 HO8
              go_wp2_with fail
              go_roundg (gk - 1)
              case measure => have := HGJ.out; omega
              case rel => exact ⟨j + 1, _, _, S', cur ++ [(n : Int)], a9, c9, by have := HGJ.out; omega, by go_num, rfl, by rw [List.length_append, HCJ.out]; rfl, HA9.out, HI7.out, HX7.out, HT7.out, by rw [List.map_append]; exact HO9.out, HE9.out⟩
            · obtain rfl : j = Y.length := by have := HGJ.out; omega
              have hjI : ¬ (Y.length : Int) < (Y.length : Int) := by omega
              have HRW := Lib.hid (HXI'.out.row HXG'.out (by rw [HY.out]))
              have HTK := Lib.hid (show (X'.take (nL + 1)).map SF = T ++ [SF (x1, (c : Int))] from by
                have hx' := HXG'.out
                rw [HNL.out] at hx'
                have hl := (List.getElem?_eq_some_iff.1 hx').1
                rw [List.take_add_one, hx', List.map_append, ← HNL.out, HTT.out, HTE.out]
                rfl)
              have hAt := hA.t53
              have HUN := Lib.hid (Ent.t55 (hO.ent.mono fun z hz => (show Ints z (.slice al Y.length cl) cur from by
                have h := hz.reads
                unfold Ints
                rw [HCJ.out]
                exact h)))
              obtain ⟨vs, h1, h2⟩ := hAt.m.nx
              obtain ⟨an, cn, rfl, hrn⟩ := id h1.own.row
              have hncap := hrn.le
              have a2 := blk_cell hA.a (i := 2) rfl
              have hx9 := ext_al (Ext.refl wr) (Obj.cells #[.slice al Y.length cl] 27)
              have HX9 := Lib.hid hx9
              have HN9 := Lib.hid (h1.ext hx9)
              have HN1 := Lib.hid h1
              have HN2 := Lib.hid h2
              have HAT := Lib.hid hAt
              have hsz := hA.m.size
              rw [HNL.out] at HN9 a2
              have hL20 : nL ≤ 20000 := by omega
              clear hI hA hO hE hAt h1 h2 hrn hx9 HAA HEE HOO
              go_wp2_with (at_builtin; go_must (refine wpl_append rfl rfl Tryz.slLists (M + 2) rfl HN9.out.own rfl (Row.oneG _ _ _ _ rfl) (by simp [Value.oneCell']) (by unfold maxLen; omega) (by omega) (by simp; omega) ?_))
              intro v10 w10 hown10 hg10 hb10 _
              obtain ⟨hb10', τ10, hA10⟩ := HAT.out.pushNx HX9.out HN1.out HN2.out HUN.out hown10 (by rw [HNL.out]) rfl (by rw [HNL.out]; exact hg10) (by rw [HNL.out]; rcases hb10 with h | h; exact .inl h; right; rw [h]; simp)
              obtain ⟨a10, c10, rfl, _⟩ := id hown10.row
              have c2' := blk_cell hb10' (i := 2) rfl
              have f2' := blk_free hb10' 2
              have HA10 := Lib.hid hA10
              clear hown10 hg10 hb10 hb10' hA10 HN1 HN2 HUN HN9 HAT a2
              go_upto_region 29 with fail
              generalize w10.setCell ⟨M + 1, 2, none⟩ (.slice a10 (nL + 1) c10) = W10 at *
              have HTL := Lib.hid (show T.length = nL from by
                rw [← HTE.out, List.length_map, List.length_take, HNX.out, HNL.out]
                omega)
              obtain ⟨at', ct, rfl, hrt⟩ := id HA10.out.m.st.own.row
              have htcap := hrt.le
              have a3 := blk_cell HA10.out.a (i := 3) rfl
              have hxA := ext_al (Ext.refl W10) (Obj.cells #[.int .i64 (SF (x1, (c : Int)))] 3)
              have HXA := Lib.hid hxA
              have hoA := HA10.out.m.st.own
              have hszA := HA10.out.m.size
              rw [HTL.out] at hoA a3 htcap
              have HOA := Lib.hid (own_ext hoA hxA)
              clear hrt hxA hoA c2' f2'
              go_wp2_with (at_builtin; go_must (refine wpl_append rfl rfl Tryz.slIntsG (M + 2) rfl HOA.out rfl (Row.oneG _ _ _ _ rfl) (one_int _) (by unfold maxLen; omega) (by omega) (by simp; omega) ?_))
              intro v11 w11 hown11 hg11 hb11 _
              obtain ⟨hb11', τ11, hA11⟩ := HA10.out.pushSt (x := SF (x1, (c : Int))) HXA.out hown11 (by rw [HTL.out]) rfl (by rw [HTL.out]; exact hg11) (by rw [HTL.out]; rcases hb11 with h | h; exact .inl h; right; rw [h]; simp)
              obtain ⟨a11, c11, rfl, _⟩ := id hown11.row
              have c3' := blk_cell hb11' (i := 3) rfl
              have f3' := blk_free hb11' 3
              have HA11 := Lib.hid hA11
              clear hown11 hg11 hb11 hb11' hA11 HOA a3
              go_wp2_with fail
              go_roundg (G0 - 1)
              case measure => have := HGI.out; have := HNL.out; omega
              case rel => exact ⟨nL + 1, _, _, _, _, X', L ++ [cur], by have := HGI.out; have := HNL.out; omega, by go_num, by rw [List.length_append, HNL.out]; rfl, by rw [HTK.out]; exact HA11.out, HRW.out⟩
        · have hLe : L.length = X.length := by omega
          have HDN := Lib.hid (hI.last hLe)
          have HTX := Lib.hid (show T = X.map SF from by rw [← hTe, hLe, List.take_length])
          have hiI : ¬ (L.length : Int) < (X.length : Int) := by omega
          obtain ⟨ax, cx, rfl, _⟩ : ∃ a c, nx = .slice a L.length c ∧ True := by
            obtain ⟨vs, h1, _⟩ := hA.m.nx
            obtain ⟨a, c, e, _⟩ := h1.own.row
            exact ⟨a, c, e, trivial⟩
          obtain ⟨at', ct, rfl, _⟩ := id hA.m.st.own.row
          have hW2 := HX2.out.trans hA.e
          have hR := blk_ext HR.out hW2
          have a1' := blk_cell hA.a (i := 1) rfl
          have a2' := blk_cell hA.a (i := 2) rfl
          have a3' := blk_cell hA.a (i := 3) rfl
          have a4' := blk_cell hA.a (i := 4) rfl
          have r0 := blk_cell hR (i := 0) rfl
          have r1 := blk_cell hR (i := 1) rfl
          have r2 := blk_cell hR (i := 2) rfl
          have r3 := blk_cell hR (i := 3) rfl
          have r4 := blk_cell hR (i := 4) rfl
          have f0 := blk_free hR 0
          have f1 := blk_free hR 1
          have f2 := blk_free hR 2
          have f3 := blk_free hR 3
          have f4 := blk_free hR 4
          have hRM : w.heap.size + 1 < M + 2 := by
            have h1 := blk_lt HR.out
            have h2 := HX2.out.size
            rw [HMS.out] at h2
            omega
          have HRM := Lib.hid hRM
          have HEW := Lib.hid (HE.out.trans hW2)
          clear hrsp hI hA hTe hW2 hR hLe hRM
          go_wp2_with fail
          refine bodyPost_ret (v := .tuple #[.agg #[.slice asp X.length csp, .int .i64 (I.length : Int), .slice ax L.length cx, .slice at' T.length ct, .int .i64 (k : Int)], .int .i64 0]) (by simp [results, Tryz.results21, go_sem, r0, r1, r2, r3, r4]) rfl ?_
          obtain rfl := HTX.out
          have hrm := HRM.out
          refine ⟨τ, _, _, _, rfl, X, L, GMem.base ((((((HA.out.m.low ?_ _).low ?_ _).low ?_ _).low ?_ _).low ?_ _)) (by omega), HDN.out, ext_st (ext_st (ext_st (ext_st (ext_st HEW.out ?_ _) ?_ _) ?_ _) ?_ _) ?_ _⟩
          all_goals first | exact hrm | exact Nat.le_succ _

end Go.Proofs.YtbmimdnpchldlaaGreatDoor

namespace Go.Proofs.YtbmimdnpchldlaaGreatDoor
open Go.RowKit

theorem xdone_gok {m : Md} {P : List Tm} {t : Tm} {X : List Sp2} {L : List (List Int)} (hk : TkOk m P t) (hX : XDone (bX m P t) (oX m t) (iX m P t) X L) (C : Nat) (hC : countL m.vars = (C : Int)) (hCN : C * 2 ^ cntA t.flat ≤ 20000) :
    GOk X.length L (X.map (sX m P t)) ((iX m P t).length : Int) (cntA t.flat) where
  nx := hX.len
  st := by simp
  max := Nat.le_trans (pairs_bound C (2 ^ cntA t.flat) hX.nd fun x hx => by
    obtain ⟨h1, h2, h3, h4⟩ := hX.ok x hx
    exact ⟨h1, by rw [← hC]; exact h2, h3, h4⟩) hCN
  i0 := by omega
  i1 := by have := hX.ilen; omega
  m6 := hk.ff.cnt
  ins := hX.inside
  bits := by
    intro s hs
    obtain ⟨x, _, rfl⟩ := List.mem_map.1 hs
    unfold sX
    have := meUp_lt t.flat (t.ends 0) (tvT (letS P (valsL m.vars x.1)) x.2.toNat t 0) t.flat.length (Nat.le_refl _)
    rw [List.take_length] at this
    refine ⟨by omega, ?_⟩
    have e : ((2 ^ cntA t.flat : Nat) : Int) = (2 : Int) ^ cntA t.flat := by push_cast; rfl
    omega

theorem spots_cells {w : World} {a : Option Addr} {n c : Nat} {X : List Sp2} (h : Spots w (.slice a n c) X) : n ≤ c ∧ c ≤ maxLen ∧ ∃ b off, (0 < X.length → a = some ⟨b, off, none⟩) ∧ ∀ (i : Nat) (hi : i < X.length), w.cell? ⟨b, off + i * 2, none⟩ = some (.int .i64 X[i].1) ∧ w.cell? ⟨b, off + i * 2 + 1, none⟩ = some (.int .i64 X[i].2) := by
  obtain ⟨a', c', e, hr⟩ := h
  simp only [Value.slice.injEq] at e
  obtain ⟨rfl, rfl, rfl⟩ := e
  exact ⟨hr.le, hr.max, spotsX_at hr⟩

end Go.Proofs.YtbmimdnpchldlaaGreatDoor

namespace Go.Proofs.YtbmimdnpchldlaaGreatDoor

/-- What holds of the ops that look ahead, as bits. -/
def clU (f : Nat → Nat → Bool) : Nat → Nat → Nat
  | 0, _ => 0
  | b + 1, i => if f b i then clU f b i ||| 2 ^ b else clU f b i
theorem clU_lt (f : Nat → Nat → Bool) (i : Nat) : ∀ b, clU f b i < 2 ^ b
  | 0 => by simp [clU]
  | b + 1 => by
    have ih := clU_lt f i b
    unfold clU
    split
    · exact Nat.or_lt_two_pow (Nat.lt_of_lt_of_le ih (Nat.pow_le_pow_right (by omega) (by omega))) (Nat.pow_lt_pow_right (by omega) (by omega))
    · exact Nat.lt_of_lt_of_le ih (Nat.pow_le_pow_right (by omega) (by omega))
theorem clU_bit (f : Nat → Nat → Bool) (i j : Nat) : ∀ b, (clU f b i).testBit j = (decide (j < b) && f j i)
  | 0 => by simp [clU]
  | b + 1 => by
    have ih := clU_bit f i j b
    unfold clU
    by_cases e : j = b
    · subst e
      cases hf : f j i
      · simp [ih]
      · simp [Nat.testBit_or, ih, Nat.testBit_two_pow_self]
    · have e2 : decide (j < b + 1) = decide (j < b) := by congr 1; simp; omega
      split
      · rw [Nat.testBit_or, ih, Nat.testBit_two_pow_of_ne (Ne.symm e), e2]; simp
      · rw [ih, e2]
noncomputable def ahB (W : Wd) (t : Tm) (b i : Nat) : Bool := match (subs t)[(plUp t.flat t.flat.length).getD b 0]? with
  | some s => satB W s i
  | none => false

end Go.Proofs.YtbmimdnpchldlaaGreatDoor

namespace Go.Proofs.YtbmimdnpchldlaaGreatDoor

theorem plUp_at (l : List Op2) (p : Nat) (ha : aheadB (l.getD p (0, 0)).1 = true) : ∀ i, i ≤ l.length → p < i → (plUp l i)[cntA (l.take p)]? = some p
  | 0, _, h => by omega
  | i + 1, hi, h => by
    unfold plUp
    by_cases e : p = i
    · subst e
      rw [if_pos ha, List.getElem?_append_right (by rw [plUp_len l p (by omega)]; exact Nat.le_refl _), plUp_len l p (by omega)]
      simp
    · have ih := plUp_at l p ha i (by omega) (by omega)
      split
      · rw [List.getElem?_append_left (List.getElem?_eq_some_iff.1 ih).1]; exact ih
      · exact ih
theorem ah_inj (l : List Op2) {p q : Nat} (hp : p < l.length) (hq : q < l.length) (ha : aheadB (l.getD p (0, 0)).1 = true) (hb : aheadB (l.getD q (0, 0)).1 = true) (h : cntA (l.take p) = cntA (l.take q)) : p = q := by
  have h1 := plUp_at l p ha l.length (Nat.le_refl _) hp
  have h2 := plUp_at l q hb l.length (Nat.le_refl _) hq
  rw [h, h2] at h1
  exact (Option.some.inj h1).symm

theorem meUp_bit (l : List Op2) (es : List Int) (tv : List Bool) (b : Nat) : ∀ i, i ≤ l.length → ((meUp l es tv i).testBit b = true ↔ ∃ p, p < i ∧ aheadB (l.getD p (0, 0)).1 = true ∧ metB (l.getD p (0, 0)).1 es tv p = true ∧ cntA (l.take p) = b)
  | 0, _ => by simp [meUp]
  | i + 1, hi => by
    have ih := meUp_bit l es tv b i (by omega)
    unfold meUp
    split
    · rename_i e
      simp only [Bool.and_eq_true] at e
      rw [Nat.testBit_or, Bool.or_eq_true, ih, Nat.testBit_two_pow]
      simp only [decide_eq_true_eq]
      constructor
      · rintro (⟨p, h1, h2⟩ | h)
        · exact ⟨p, by omega, h2⟩
        · exact ⟨i, by omega, e.1, e.2, h⟩
      · rintro ⟨p, h1, h2, h3, h4⟩
        by_cases hp : p = i
        · subst hp; exact .inr h4
        · exact .inl ⟨p, by omega, h2, h3, h4⟩
    · rename_i e
      rw [ih]
      constructor
      · rintro ⟨p, h1, h2⟩
        exact ⟨p, by omega, h2⟩
      · rintro ⟨p, h1, h2, h3, h4⟩
        by_cases hp : p = i
        · subst hp; exact absurd (by rw [h2, h3]; rfl) e
        · exact ⟨p, by omega, h2, h3, h4⟩

/-- What is met along a loop, together. -/
def macc (m : Nat → Nat) (back : Nat) : Nat → Nat
  | 0 => 0
  | i + 1 => if back ≤ i then macc m back i ||| m i else macc m back i
theorem macc_bit (m : Nat → Nat) (back b : Nat) : ∀ i, (macc m back i).testBit b = true ↔ ∃ j, back ≤ j ∧ j < i ∧ (m j).testBit b = true
  | 0 => by simp [macc]
  | i + 1 => by
    have ih := macc_bit m back b i
    unfold macc
    split
    · rename_i e
      rw [Nat.testBit_or, Bool.or_eq_true, ih]
      constructor
      · rintro (⟨j, h1, h2, h3⟩ | h)
        · exact ⟨j, h1, by omega, h3⟩
        · exact ⟨i, e, by omega, h⟩
      · rintro ⟨j, h1, h2, h3⟩
        by_cases hj : j = i
        · subst hj; exact .inr h3
        · exact .inl ⟨j, h1, by omega, h3⟩
    · rename_i e
      rw [ih]
      exact ⟨fun ⟨j, h1, h2, h3⟩ => ⟨j, h1, by omega, h3⟩, fun ⟨j, h1, h2, h3⟩ => ⟨j, h1, by omega, h3⟩⟩
theorem macc_lt {m : Nat → Nat} {N : Nat} (h : ∀ j, m j < 2 ^ N) (back : Nat) : ∀ i, macc m back i < 2 ^ N
  | 0 => Nat.two_pow_pos N
  | i + 1 => by
    unfold macc
    split
    · exact Nat.or_lt_two_pow (macc_lt h back i) (h i)
    · exact macc_lt h back i
theorem full_iff {x N : Nat} (h : x < 2 ^ N) : x = 2 ^ N - 1 ↔ ∀ b, b < N → x.testBit b = true := by
  constructor
  · rintro rfl b hb
    rw [Nat.testBit_two_pow_sub_one]; simpa using hb
  · intro h2
    apply Nat.eq_of_testBit_eq
    intro b
    rw [Nat.testBit_two_pow_sub_one]
    by_cases hb : b < N
    · rw [h2 b hb]; simp [hb]
    · rw [Nat.testBit_lt_two_pow (Nat.lt_of_lt_of_le h (Nat.pow_le_pow_right (by omega) (by omega)))]; simp [hb]

def metN (W : Wd) (t : Tm) (c : Nat → Nat) (i : Nat) : Nat := meUp t.flat (t.ends 0) (tvW W c t i) t.flat.length
def folN (W : Wd) (t : Tm) (c : Nat → Nat) (i : Nat) : Bool := folB t.flat (t.ends 0) (tvW W c t i) (tvW W c t (nxt W.n W.back i)) t.flat.length
theorem metN_lt (W : Wd) (t : Tm) (c : Nat → Nat) (i : Nat) : metN W t c i < 2 ^ cntA t.flat := by
  have := meUp_lt t.flat (t.ends 0) (tvW W c t i) t.flat.length (Nat.le_refl _)
  rwa [List.take_length] at this

section
variable {W : Wd} (hb : W.back < W.n) {t : Tm} (ht : t.ok) {props : Int} (hfit : ∀ o ∈ t.flat, FitOp props o)
include hb ht hfit

theorem ahB_at {p : Nat} {s : Tm} (hs : (subs t)[p]? = some s) (ha : aheadB s.kd = true) (i : Nat) : ahB W t (cntA (t.flat.take p)) i = satB W s i := by
  have _ := hb
  have _ := hfit
  have hp : p < t.size := by have := (List.getElem?_eq_some_iff.1 hs).1; rwa [subs_len] at this
  obtain ⟨s', hS⟩ := subs_at t ht p hp
  obtain rfl : s = s' := by have := hS.sub; rw [hs] at this; exact Option.some.inj this
  have h := plUp_at t.flat p (by rw [getD_op hS.op]; exact ha) t.flat.length (Nat.le_refl _) (by rw [Tm.flat_len]; exact hp)
  unfold ahB
  have e : (plUp t.flat t.flat.length).getD (cntA (t.flat.take p)) 0 = p := by simp [List.getD, h]
  rw [e, hs]
theorem cnt_lt {p : Nat} (hp : p < t.size) (ha : aheadB (t.flat.getD p (0, 0)).1 = true) : cntA (t.flat.take p) < cntA t.flat := by
  have _ := hb
  have _ := ht
  have _ := hfit
  have hl : p < t.flat.length := by rw [Tm.flat_len]; exact hp
  have h1 := cntA_take t.flat hl
  have h2 := cntA_take_le t.flat (p + 1)
  have hg : t.flat.getD p (0, 0) = t.flat[p] := by simp [List.getD, List.getElem?_eq_getElem hl]
  rw [hg] at ha
  rw [ha] at h1
  simp only [if_true] at h1
  omega

theorem claims_bits {N : Nat} (hN : cntA t.flat = N) {c : Nat → Nat} (hc : ∀ i, i < W.n → c i = clU (ahB W t) N i) :
    ∀ i, i < W.n → ∀ p s, (subs t)[p]? = some s → aheadB s.kd = true → (c i).testBit (cntA (t.flat.take p)) = satB W s i := by
  intro i hi p s hs ha
  have hp : p < t.size := by have := (List.getElem?_eq_some_iff.1 hs).1; rwa [subs_len] at this
  obtain ⟨s', hS⟩ := subs_at t ht p hp
  obtain rfl : s = s' := by have := hS.sub; rw [hs] at this; exact Option.some.inj this
  have hl := cnt_lt hb ht hfit hp (by rw [getD_op hS.op]; exact ha)
  rw [hc i hi, clU_bit, ahB_at hb ht hfit hs ha i]
  simp; omega

/-- The truths along the line of what holds. -/
theorem claims_tv {N : Nat} (hN : cntA t.flat = N) {c : Nat → Nat} (hc : ∀ i, i < W.n → c i = clU (ahB W t) N i) (p : Nat) (s : Tm) (hs : (subs t)[p]? = some s) (i : Nat) (hi : i < W.n) : (tvW W c t i).getD p false = satB W s i :=
  claims_sat ht hfit (claims_bits hb ht hfit hN hc) t.size p (by omega) s hs i hi

theorem line_iff {N : Nat} (hN : cntA t.flat = N) {c : Nat → Nat} (hc : ∀ i, i < W.n → c i < 2 ^ N) :
    ((∀ i, i < W.n → folN W t c i = true) ∧ macc (metN W t c) W.back W.n = 2 ^ N - 1) ↔ ∀ i, i < W.n → c i = clU (ahB W t) N i := by
  have hm : macc (metN W t c) W.back W.n < 2 ^ N := macc_lt (fun j => by rw [← hN]; exact metN_lt W t c j) _ _
  rw [full_iff hm]
  constructor
  · rintro ⟨h1, h2⟩ i hi
    have key := line_sat hb ht hfit (c := c) (fun i hi p hp ha => (folB_iff _ _ _ _ _).1 (h1 i hi) p (by rw [Tm.flat_len]; exact hp) ha) (fun p hp ha => by
      have hl := cnt_lt hb ht hfit hp ha
      obtain ⟨j, e1, e2, e3⟩ := (macc_bit _ _ _ _).1 (h2 _ (by rw [← hN]; exact hl))
      obtain ⟨q, q1, q2, q3, q4⟩ := (meUp_bit _ _ _ _ _ (Nat.le_refl _)).1 e3
      obtain rfl : q = p := ah_inj t.flat q1 (by rw [Tm.flat_len]; exact hp) q2 ha q4
      exact ⟨j, e1, e2, q3⟩) t.size
    apply Nat.eq_of_testBit_eq
    intro b
    rw [clU_bit]
    by_cases hbN : b < N
    · have hlen : (plUp t.flat t.flat.length).length = N := by rw [plUp_len t.flat _ (Nat.le_refl _), List.take_length]; exact hN
      have hq := List.getElem?_eq_getElem (show b < (plUp t.flat t.flat.length).length by omega)
      generalize (plUp t.flat t.flat.length)[b] = p at hq
      obtain ⟨p1, p2, p3⟩ := plUp_get t.flat _ (Nat.le_refl _) b p hq
      rw [Tm.flat_len] at p1
      obtain ⟨s, hS⟩ := subs_at t ht p p1
      have ha : aheadB s.kd = true := by rw [getD_op hS.op] at p2; exact p2
      have hv := (tv_at (W.ls.getD i []) (c i) t ht p _ _ hS.op).ah ha
      rw [p3] at hv
      have hk := key p (by omega) s hS.sub i hi
      rw [show tvW W c t i = tvT (W.ls.getD i []) (c i) t 0 from rfl, getD_of hv] at hk
      have hA := ahB_at hb ht hfit hS.sub ha i
      rw [p3] at hA
      rw [hk, hA]
      simp [hbN]
    · rw [Nat.testBit_lt_two_pow (Nat.lt_of_lt_of_le (hc i hi) (Nat.pow_le_pow_right (by omega) (by omega)))]
      simp [hbN]
  · intro h
    have hs := claims_tv hb ht hfit hN h
    refine ⟨fun i hi => (folB_iff _ _ _ _ _).2 fun p hp ha => sat_keeps hb ht hfit hs i hi p (by rwa [Tm.flat_len] at hp) ha, fun b hbN => (macc_bit _ _ _ _).2 ?_⟩
    have hlen : (plUp t.flat t.flat.length).length = N := by rw [plUp_len t.flat _ (Nat.le_refl _), List.take_length]; exact hN
    have hq := List.getElem?_eq_getElem (show b < (plUp t.flat t.flat.length).length by omega)
    generalize (plUp t.flat t.flat.length)[b] = p at hq
    obtain ⟨p1, p2, p3⟩ := plUp_get t.flat _ (Nat.le_refl _) b p hq
    obtain ⟨j, e1, e2, e3⟩ := sat_meets hb ht hfit hs p (by rwa [Tm.flat_len] at p1) p2
    exact ⟨j, e1, e2, (meUp_bit _ _ _ _ _ (Nat.le_refl _)).2 ⟨p, p1, p2, e3, p3⟩⟩
end

end Go.Proofs.YtbmimdnpchldlaaGreatDoor
