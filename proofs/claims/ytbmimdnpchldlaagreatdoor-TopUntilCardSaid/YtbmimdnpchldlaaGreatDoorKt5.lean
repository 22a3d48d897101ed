/- Several texts in one: LasA; XpP; Step; Atl; Term; Gen. No condition. -/
import Derived.Test.YtbmimdnpchldlaaGreatDoorKt3
import Derived.Test.YtbmimdnpchldlaaGreatDoorKt4
import Derived.Deep.DeepCutAuto
import Derived.Test.YtbmimdnpchldlaaGreatDoorKt1
import Derived.Laws.IdiomStrings
import Derived.Laws.BytesArg
import Derived.Deep.RegionHeld3
import Derived.Laws.StructEq
import Derived.WalkKit
import Derived.Deep.QuietTactic
import Derived.BigQuiet
import Derived.Deep.RegionLaw
namespace Go.Proofs.YtbmimdnpchldlaaGreatDoor
open Go.RowKit

/-- What Lasso answers. -/
def LassoR (n : Nat) (next : List (List Int)) (sets : List Int) (M init : Nat) (w : World) (e : Ending) (w' : World) : Prop :=
  ((∃ (st lp : List Nat) (a1 : Option Addr) (c1 : Nat) (a2 : Option Addr) (c2 : Nat), e = .returned (.tuple #[.agg #[.slice a1 st.length c1, .slice a2 lp.length c2], .int .i64 0]) ∧ Reads w' 1 (.slice a1 st.length c1) st.length (natV st) ∧ Reads w' 1 (.slice a2 lp.length c2) lp.length (natV lp) ∧
      LassoOk next (bitsN sets) M init st lp ∧ (∀ x ∈ st ++ lp, x < n) ∧ (st.length ≤ 20000 ∧ lp.length ≤ 200000) ∧ ∃ m, FairR next (bitsN sets) M n init m) ∨
    (e = .returned (.tuple #[.agg #[.slice none 0 0, .slice none 0 0], .int .i64 11]) ∧ ∀ j, ¬ FairR next (bitsN sets) M n init j)) ∧ Ext w w'

theorem natV_snoc (l : List Nat) (x : Nat) : natV (l ++ [x]) = natV l ++ [.int .i64 (x : Int)] := by simp [natV]

theorem row_rest {w : World} {b off n cap : Nat} {x : Value} {xs : List Value} (h : Row w 1 (some ⟨b, off, none⟩) (n + 1) cap (x :: xs)) : Row w 1 (if cap = 1 then some ⟨b, off, none⟩ else some ⟨b, off + 1, none⟩) n (cap - 1) xs := by
  have h1 := h.len
  have h2 := h.le
  have h3 := h.max
  simp only [List.length_cons] at h1
  obtain ⟨b', o', _, g2, g3⟩ := h.lie
  have e := g2 (by simp)
  simp only [Option.some.injEq, Addr.mk.injEq, and_true] at e
  obtain ⟨rfl, rfl⟩ := e
  by_cases hc : cap = 1
  · rw [if_pos hc]
    have hx : xs = [] := List.eq_nil_of_length_eq_zero (by omega)
    subst hx
    exact ⟨by omega, by omega, by omega, b, off, (by intro h; cases h), fun _ => rfl, by intro j u hu; simp at hu⟩
  · rw [if_neg hc]
    exact ⟨by omega, by omega, by omega, b, off + 1, (by intro h; cases h), fun _ => rfl, fun j u hu => by
      have := g3 (j + 1) u (by simpa using hu)
      rwa [show off + 1 + j = off + (j + 1) by omega]⟩

set_option maxRecDepth 100000 in
set_option maxHeartbeats 16000000 in
theorem lasso_any (sp nx st : Value) (init : Nat) (M : Nat) (S : List Sp2) (next : List (List Int)) (sets : List Int) (w : World) (hS : Spots w sp S) (hN : Lists w nx next) (hT : Ints w st sets) (hk : GOk S.length next sets init M) :
    Calls Tryz.prog 37 #[.agg #[sp, .int .i64 (init : Int), nx, st, .int .i64 (M : Int)]] w (LassoR S.length next sets M init w) := by
  have HFA := Lib.hid fun wx (hx : Ext w wx) => fairR_any sp nx st init M S next sets wx (hS.ext hx) (hN.ext hx) (hT.ext hx) hk
  have HPA := Lib.hid fun wx (hx : Ext w wx) => parts_any sp nx st init M S next sets wx (hS.ext hx) (hN.ext hx) (hT.ext hx) hk
  have HWY := Lib.hid fun wx (hx : Ext w wx) => way_any sp nx st init M S next sets wx (hS.ext hx) (hN.ext hx) (hT.ext hx) hk
  have HK := Lib.hid hk
  have h20 := hk.max
  have hm6 := hk.m6
  have hi1 := hk.i1
  have HTT := Lib.hid hT
  have HNN := Lib.hid hN
  obtain ⟨asp, csp, rfl, _⟩ := hS
  obtain ⟨ax, cx, rfl⟩ : ∃ a c, nx = .slice a next.length c := by
    obtain ⟨vs, he, a, c, rfl, _⟩ := hN
    exact ⟨a, c, rfl⟩
  obtain ⟨at', ct, rfl, _⟩ := hT
  have hnl := hk.nx
  have hsl := hk.st
  generalize S.length = n at *
  rw [hnl] at HFA HPA HWY HNN ⊢
  rw [hsl] at HFA HPA HWY HTT ⊢
  have HNL := Lib.hid hnl
  have HSL := Lib.hid hsl
  clear hk hN hnl hsl
  have hb := blk_new w (Obj.cells #[.slice asp n csp, .int .i64 (init : Int), .slice ax n cx, .slice at' n ct, .int .i64 (M : Int)] 44)
  have hx := ext_al (Ext.refl (w.alloc (Obj.cells #[.slice asp n csp, .int .i64 (init : Int), .slice ax n cx, .slice at' n ct, .int .i64 (M : Int)] 44))) (Obj.cells #[.slice none 0 0, .slice none 0 0] 38)
  have hb2 := blk_new (w.alloc (Obj.cells #[.slice asp n csp, .int .i64 (init : Int), .slice ax n cx, .slice at' n ct, .int .i64 (M : Int)] 44)) (Obj.cells #[.slice none 0 0, .slice none 0 0] 38)
  rw [World.size_alloc] at hb2
  have HE := Lib.hid ((ext_al (Ext.refl w) (Obj.cells #[.slice asp n csp, .int .i64 (init : Int), .slice ax n cx, .slice at' n ct, .int .i64 (M : Int)] 44)).trans hx)
  have HB := Lib.hid (blk_ext hb hx)
  have HR := Lib.hid hb2
  have d0 := blk_cell HB.out (i := 0) rfl
  have d1 := blk_cell HB.out (i := 1) rfl
  have d2 := blk_cell HB.out (i := 2) rfl
  have d3 := blk_cell HB.out (i := 3) rfl
  have d4 := blk_cell HB.out (i := 4) rfl
  clear hb hx hb2
  go_enter Tryz.func37, Tryz.ntmps37
  go_wp2_with fail
  generalize (w.alloc (Obj.cells #[.slice asp n csp, .int .i64 (init : Int), .slice ax n cx, .slice at' n ct, .int .i64 (M : Int)] 44)).alloc (Obj.cells #[.slice none 0 0, .slice none 0 0] 38) = W0 at *
  refine (HFA.out _ HE.out).mono ?_
  rintro e w1 ⟨⟨m, rfl, hF, -⟩ | ⟨rfl, hno⟩, hE1⟩
  · have HF := Lib.hid hF
    have HX1 := Lib.hid hE1
    have hx2 := ext_al (Ext.refl w1) (Obj.cells #[.int .i64 (m : Int)] 3)
    have hb2 := blk_new w1 (Obj.cells #[.int .i64 (m : Int)] 3)
    have HH2 := Lib.hid hb2
    have HX2 := Lib.hid (hE1.trans hx2)
    have hbg := blk_ext HB.out HX2.out
    have d0 := blk_cell hbg (i := 0) rfl
    have d1 := blk_cell hbg (i := 1) rfl
    have d2 := blk_cell hbg (i := 2) rfl
    have d3 := blk_cell hbg (i := 3) rfl
    have d4 := blk_cell hbg (i := 4) rfl
    clear hF hE1 hx2 hb2 hbg HFA
    go_wp2_with fail
    generalize w1.alloc (Obj.cells #[.int .i64 (m : Int)] 3) = W2 at *
    refine (HPA.out _ (HE.out.trans HX2.out)).mono ?_
    rintro e w3 ⟨D, part, rfl, hop, hpk, hE3⟩
    obtain ⟨pn, hpl, hpe, hpb⟩ := part_nat HK.out.ins HNL.out hpk
    rw [hpl] at hop
    have HPH := Lib.hid (part_home hpk hpe HF.out.2.1 HF.out.1)
    have HX3 := Lib.hid (HX2.out.trans hE3)
    have HH3 := Lib.hid (blk_ext HH2.out hE3)
    have HOP := Lib.hid hop
    have HDW := Lib.hid (show w.heap.size ≤ W2.heap.size from (HE.out.trans HX2.out).size)
    obtain ⟨H1, hH1⟩ : ∃ x, w1.heap.size = x := ⟨_, rfl⟩
    rw [hH1] at HH3 ⊢
    have hbg := blk_ext HB.out HX3.out
    have hx4 := ext_al (Ext.refl w3) (Obj.cells #[.slice (some ⟨D, 0, none⟩) n n] 27)
    have hb4 := blk_new w3 (Obj.cells #[.slice (some ⟨D, 0, none⟩) n n] 27)
    have HP4 := Lib.hid hb4
    have HX4 := Lib.hid (HX3.out.trans hx4)
    have HH4 := Lib.hid (blk_ext HH3.out hx4)
    have HOP4 := Lib.hid (own_ext hop hx4)
    have hbg4 := blk_ext hbg hx4
    have d0 := blk_cell hbg4 (i := 0) rfl
    have d1 := blk_cell hbg4 (i := 1) rfl
    have d2 := blk_cell hbg4 (i := 2) rfl
    have d3 := blk_cell hbg4 (i := 3) rfl
    have d4 := blk_cell hbg4 (i := 4) rfl
    clear hop hpk hE3 hpl hpe hpb hx4 hb4 hbg hbg4 hH1 HPA HH2 HH3 HOP
    go_upto_region 5 with fail
    obtain ⟨PB, hPB⟩ : ∃ x, w3.heap.size = x := ⟨_, rfl⟩
    rw [hPB] at HP4 ⊢
    clear hPB
    generalize w3.alloc (Obj.cells #[.slice (some ⟨D, 0, none⟩) n n] 27) = W4 at *
    have hx5 := ext_al (Ext.refl W4) (Obj.cells #[.slice asp n csp, .int .i64 (init : Int), .slice ax n cx, .slice at' n ct, .int .i64 (M : Int)] 133)
    have HG5 := Lib.hid (blk_new W4 (Obj.cells #[.slice asp n csp, .int .i64 (init : Int), .slice ax n cx, .slice at' n ct, .int .i64 (M : Int)] 133))
    have HX5 := Lib.hid (HX4.out.trans hx5)
    have HH5 := Lib.hid (blk_ext HH4.out hx5)
    have HP5 := Lib.hid (blk_ext HP4.out hx5)
    have HO5 := Lib.hid (own_ext HOP4.out hx5)
    have hmf : ∀ (fn : Fn) (first cap : Array Value) (w : World), (Instr.makeFunc fn first cap).run Tryz.prog w = .ok (.func fn first cap) w := fun _ _ _ _ => rfl
    have e1 := blk_cell (blk_ext HB.out HX5.out) (i := 1) rfl
    clear hx5 HX4 HH4 HP4 HOP4
    go_upto_region 7 with fail
    obtain ⟨GB, hGB⟩ : ∃ x, W4.heap.size = x := ⟨_, rfl⟩
    rw [hGB] at HG5 ⊢
    clear hGB
    generalize W4.alloc (Obj.cells #[.slice asp n csp, .int .i64 (init : Int), .slice ax n cx, .slice at' n ct, .int .i64 (M : Int)] 133) = W5 at *
    clear d0 d1 d2 d3 d4
    go_wp2_with fail
    go_loopg [41, 9] init (fun g x y wr => ∃ (k : Nat) (al : Option Addr) (cl : Nat), g + k = init ∧ x = .int .i64 (k : Int) ∧ y = .slice al k cl ∧ Ext W5 wr ∧ wr.ownsRow W5.heap.size 3 1 (.slice al k cl) k (natV (List.range k)))
    case atStart => exact ⟨0, none, 0, by omega, by go_num, rfl, Ext.refl _, World.ownsRow_nil _ _ _ _⟩
    case round =>
      obtain ⟨k, al, cl, hgk, rfl, rfl, hE, hO⟩ := hrel
      have HGK := Lib.hid hgk
      have HEE := Lib.hid hE
      have HOO := Lib.hid hO
      clear hgk e1
      by_cases hk : k < init
      · have hkI : (k : Int) < (init : Int) := by omega
        have hx6 := ext_al (Ext.refl wr) (Obj.cells #[.int .i64 (k : Int)] 3)
        have HX6 := Lib.hid hx6
        have HO6 := Lib.hid (own_ext hO hx6)
        have hsz := hE.size
        clear hE hO hx6
        go_wp2_with (at_builtin; go_must (refine wpl_append rfl rfl Tryz.slIntsW W5.heap.size rfl HO6.out rfl (Row.oneG _ _ _ _ rfl) (one_int _) (by unfold maxLen; omega) (by omega) (by simp; omega) ?_))
        intro v7 w7 hown7 hg7 hb7 _
        obtain ⟨a7, c7, rfl, _⟩ := id hown7.row
        have HE7 := Lib.hid (show Ext W5 w7 from Below.grown (HEE.out.trans HX6.out) hg7 (HEE.out.trans HX6.out).size (fun b hb => (HO6.out.lt b hb).1))
        have HO7 := Lib.hid (show w7.ownsRow W5.heap.size 3 1 (.slice a7 (k + 1) c7) (k + 1) (natV (List.range (k + 1))) from by
          rw [List.range_succ, natV_snoc]
          exact hown7)
        clear hown7 hg7 hb7
        go_wp2_with fail
        go_roundg (gk - 1)
        case measure => have := HGK.out; omega
        case rel => exact ⟨k + 1, a7, c7, by have := HGK.out; omega, by go_num, rfl, HE7.out, HO7.out⟩
      · obtain rfl : k = init := by have := HGK.out; omega
        have hkI : ¬ (k : Int) < (k : Int) := by omega
        have HXR := Lib.hid (HE.out.trans (HX5.out.trans hE))
        have hg := blk_ext HG5.out hE
        have g0 := blk_cell hg (i := 0) rfl
        have g1 := blk_cell hg (i := 1) rfl
        have g2 := blk_cell hg (i := 2) rfl
        have g3 := blk_cell hg (i := 3) rfl
        have g4 := blk_cell hg (i := 4) rfl
        have HFR := Lib.hid (show Reads wr 1 (.slice al k cl) (List.range k).length (natV (List.range k)) from by rw [List.length_range]; exact hO.reads)
        have hH := blk_ext HH5.out hE
        have HST := Lib.hid (way_stem HF.out.2.2)
        have hw := HWY.out wr HXR.out (.slice al k cl) (List.range k) HFR.out List.nodup_range (fun x hx => by have := List.mem_range.1 hx; omega) 65 66 #[] #[.pointer (some ⟨H1, 0, none⟩)] (fun _ => true) (fun i => i == m)
          (fun i wx _ _ => clo_true i wx) (fun i wx _ hx => clo_home i m H1 wx (blk_ext hH hx)) Tryz.enterTrue Tryz.enterHome HST.out
        have HWA := Lib.hid hw
        clear hE hO hg hH hw
        go_wp2_with fail
        refine HWA.out.mono ?_
        rintro e w8 ⟨st, b8, a8, c8, rfl, hwt8, hl8, ho8, hE8⟩
        obtain ⟨s0, hs0, hway, hb8, -⟩ := hwt8
        obtain rfl : b8 = m := by simpa using hb8
        have HWS := Lib.hid (show s0 < k from List.mem_range.1 hs0)
        have HWW := Lib.hid hway
        have HS8 := Lib.hid ho8
        have HX8 := Lib.hid (HEE.out.trans hE8)
        have hH8 := blk_ext HH5.out HX8.out
        have HH8 := Lib.hid hH8
        have HP8 := Lib.hid (blk_ext HP5.out HX8.out)
        have hg8 := blk_ext HB.out (HX5.out.trans HX8.out)
        have HB8 := Lib.hid hg8
        have HG8 := Lib.hid (blk_ext HG5.out HX8.out)
        have q0 := blk_cell hH8 (i := 0) rfl
        have z3 := blk_cell hg8 (i := 3) rfl
        have z4 := blk_cell hg8 (i := 4) rfl
        obtain ⟨_, _, e1, hrs⟩ := id HTT.out
        simp only [Value.slice.injEq] at e1
        obtain ⟨rfl, -, rfl⟩ := e1
        obtain ⟨sb, so, i1, i2⟩ := ints_cells hrs
        have hb8n := HF.out.1
        obtain rfl := i1 (by rw [HSL.out]; omega)
        have HSC := Lib.hid (show ∀ i, i < n → w.cell? ⟨sb, so + i, none⟩ = some (.int .i64 (bitsN sets i : Int)) from fun i hi => by
          rw [i2 i (by rw [HSL.out]; exact hi), bitsN_eq HK.out.bits (by rw [HSL.out]; exact hi)])
        have cs := HSC.out b8 hb8n
        have hXW := HE.out.trans (HX5.out.trans HX8.out)
        replace cs := (World.cell?_of_block (hXW.block sb (World.block_lt_of_cell? _ _ cs))).trans cs
        have hscap := hrs.le
        have hbI : (b8 : Int) < (n : Int) := by omega
        have hb0 : (0 : Int) ≤ (b8 : Int) := by omega
        have HXW := Lib.hid hXW
        have HBL := Lib.hid (bitsN_lt HK.out.bits)
        clear ho8 hE8 hway hH8 hg8 i2 hs0 hb8 HWA HST HFR g0 g1 g2 g3 g4 hrs hXW
        go_upto_region 15 with fail
        have hx9 := ext_al (Ext.refl w8) (Obj.cells #[.int .i64 (b8 : Int)] 3)
        have HL9 := Lib.hid (World.ownsRow_lit w8 #[.int .i64 (b8 : Int)] 1 (base := w8.heap.size) (e := 3) (size := 1) (Nat.le_refl _) (by unfold maxLen; omega) rfl)
        have HX89 := Lib.hid hx9
        have q0 := blk_cell (blk_ext HH8.out hx9) (i := 0) rfl
        have z3 := blk_cell (blk_ext HB8.out hx9) (i := 3) rfl
        have z4 := blk_cell (blk_ext HB8.out hx9) (i := 4) rfl
        replace cs := (World.cell?_of_block (hx9.block sb (World.block_lt_of_cell? _ _ cs))).trans cs
        clear hx9 HH8 HP8 HB8 HG8
        generalize w8.alloc (Obj.cells #[.int .i64 (b8 : Int)] 3) = W9 at *
        go_wp2_with fail
        clear q0 z3 z4 cs
        have HO9 := Lib.hid (orL_one (bitsN sets) b8)
        obtain ⟨wo, rfl⟩ : ∃ wo : World, wo = wr := ⟨_, rfl⟩
        go_loopg [64, 13, 14, 15] M (fun g x y z u wx => ∃ (b : Nat) (lp : List Nat) (at2 : Nat) (al2 : Option Addr) (cl2 : Nat), g + b = M ∧ x = .int .i64 (b : Int) ∧ y = .slice al2 (lp.length + 1) cl2 ∧ z = .int .i64 ((orL (bitsN sets) (lp ++ [at2]) : Nat) : Int) ∧ u = .int .i64 (at2 : Int) ∧ Ext w8 wx ∧
          wx.ownsRow w8.heap.size 3 1 (.slice al2 (lp.length + 1) cl2) (lp.length + 1) (natV (lp ++ [at2])) ∧ Way next b8 lp at2 ∧ (∀ x ∈ lp ++ [at2], Same next b8 x) ∧ (∀ t, t < b → (orL (bitsN sets) (lp ++ [at2])).testBit t = true) ∧ lp.length ≤ 20001 * b)
        case atStart => exact ⟨0, [], b8, _, _, by omega, by go_num, rfl, by rw [List.nil_append, HO9.out], rfl, HX89.out, by simpa [natV] using HL9.out, .nil _, by intro x hx; simp at hx; subst hx; exact Same.refl _ _, fun t ht => by omega, by simp⟩
        case round =>
          obtain ⟨b, lp, at2, al2, cl2, hgb, rfl, rfl, rfl, rfl, hE, hO, hway, hsame, hbits, hlen⟩ := hrel
          have HGB := Lib.hid hgb
          have HEB := Lib.hid hE
          have HOB := Lib.hid hO
          have HWB := Lib.hid hway
          have HSB := Lib.hid hsame
          have HBB := Lib.hid hbits
          by_cases hb : b < M
          · have hbI : (b : Int) < (M : Int) := by omega
            have hb0' : (0 : Int) ≤ (b : Int) := by omega
            have hb6 : b < 6 := by omega
            have hm64 : orL (bitsN sets) (lp ++ [at2]) < 64 := by
              have h1 := orL_lt HBL.out (lp ++ [at2])
              have h2 := Nat.pow_le_pow_right (n := 2) (by omega) hm6
              omega
            have hq := bit_shrG (orL (bitsN sets) (lp ++ [at2])) b hm64
            obtain ⟨tb, htb⟩ : ∃ tb, (orL (bitsN sets) (lp ++ [at2])).testBit b = tb := ⟨_, rfl⟩
            rw [htb] at hq
            have HTB := Lib.hid htb
            have hxb := ext_al (Ext.refl wr) (Obj.cells #[.int .i64 (b : Int)] 3)
            have hbb := blk_new wr (Obj.cells #[.int .i64 (b : Int)] 3)
            have v0 := blk_cell hbb (i := 0) rfl
            have HBX := Lib.hid hxb
            have HBK := Lib.hid hbb
            have hEG := HX8.out.trans (hE.trans hxb)
            have hgd := blk_ext HG5.out hEG
            have g0 := blk_cell hgd (i := 0) rfl
            have g1 := blk_cell hgd (i := 1) rfl
            have g2 := blk_cell hgd (i := 2) rfl
            have g3 := blk_cell hgd (i := 3) rfl
            have g4 := blk_cell hgd (i := 4) rfl
            obtain ⟨met, hmet⟩ : ∃ q, orL (bitsN sets) (lp ++ [at2]) = q := ⟨_, rfl⟩
            rw [hmet] at hq hm64 ⊢
            have HMET := Lib.hid hmet
            have hm0 : (0 : Int) ≤ (met : Int) := by omega
            clear hgb hE hO hway hsame hbits htb hxb hbb hEG hgd hmet
            cases tb
            · have hxa := ext_al (Ext.refl (wr.alloc (Obj.cells #[.int .i64 (b : Int)] 3))) (Obj.cells #[.int .i64 (at2 : Int)] 3)
              have hat := blk_new (wr.alloc (Obj.cells #[.int .i64 (b : Int)] 3)) (Obj.cells #[.int .i64 (at2 : Int)] 3)
              rw [World.size_alloc] at hat
              have hE5 : Ext W5 ((wr.alloc (Obj.cells #[.int .i64 (b : Int)] 3)).alloc (Obj.cells #[.int .i64 (at2 : Int)] 3)) := HX8.out.trans (HEB.out.trans (HBX.out.trans hxa))
              have HW5 := Lib.hid (HE.out.trans (HX5.out.trans hE5))
              have HIC := Lib.hid fun (i : Nat) wx (hi : i < n) (hx : Ext ((wr.alloc (Obj.cells #[.int .i64 (b : Int)] 3)).alloc (Obj.cells #[.int .i64 (at2 : Int)] 3)) wx) => clo_in i b8 H1 PB D n pn wx (blk_ext HH5.out (hE5.trans hx)) (blk_ext HP5.out (hE5.trans hx)) (by
                have hc := own_cellAt HO5.out (i := i) (by simpa [lst] using hi)
                have e : ((lst n pn).map (Value.int .i64))[i]'(by simpa [lst] using hi) = .int .i64 (pn i : Int) := by simp [lst]
                rw [e] at hc
                exact (World.cell?_of_block ((hE5.trans hx).block D (World.block_lt_of_cell? _ _ hc))).trans hc) hi
              have HBC := Lib.hid fun (i : Nat) wx (hi : i < n) (hx : Ext ((wr.alloc (Obj.cells #[.int .i64 (b : Int)] 3)).alloc (Obj.cells #[.int .i64 (at2 : Int)] 3)) wx) => clo_bit i b w.heap.size wr.heap.size n so _ _ _ _ sets sb ct wx (blk_ext HB.out (HX5.out.trans (hE5.trans hx))) (blk_ext HBK.out (hxa.trans hx)) ((World.cell?_of_block ((HW5.out.trans hx).block sb (World.block_lt_of_cell? _ _ (HSC.out i hi)))).trans (HSC.out i hi)) (by
                have h1 := HBL.out i
                have h2 := Nat.pow_le_pow_right (n := 2) (by omega) hm6
                omega) hi hb6
              have HSG := Lib.hid (show ∃ l b', WayTo next [at2] (fun x => pn x == b8) (fun i => (bitsN sets i).testBit b) l b' from by
                obtain ⟨i, hi, hs, hbit⟩ := HF.out.2.1.sets b hb
                exact way_seg (n := n) (fun x hx h => (HPH.out x hx).2 h) (fun x h => reach_in HK.out.ins HNL.out h.1 HF.out.1) (HSB.out at2 (by simp)) hs hbit)
              have HFA := Lib.hid (show Reads ((wr.alloc (Obj.cells #[.int .i64 (b : Int)] 3)).alloc (Obj.cells #[.int .i64 (at2 : Int)] 3)) 1 (.slice (some ⟨wr.heap.size + 1, 0, none⟩) 1 1) [at2].length (natV [at2]) from ⟨_, _, rfl, Row.oneG _ _ _ _ (by simp)⟩)
              have hw := HWY.out _ HW5.out (.slice (some ⟨wr.heap.size + 1, 0, none⟩) 1 1) [at2] HFA.out (by simp) (fun x hx => by simp at hx; subst hx; exact reach_in HK.out.ins HNL.out (HSB.out x (by simp)).1 HF.out.1) 67 68 #[.pointer (some ⟨PB, 0, none⟩), .pointer (some ⟨H1, 0, none⟩)] #[.pointer (some ⟨w.heap.size, 0, none⟩), .pointer (some ⟨wr.heap.size, 0, none⟩)]
                (fun x => pn x == b8) (fun i => (bitsN sets i).testBit b) HIC.out HBC.out Tryz.enterIn Tryz.enterBit HSG.out
              have HWA := Lib.hid hw
              have HXQ := Lib.hid (HBX.out.trans hxa)
              clear hxa hat hE5 hw HIC HBC HSG HFA
              go_wp2_with fail
              refine HWA.out.mono ?_
              rintro e wS ⟨sg, b', aS, cS, rfl, hwt, hsl, hoS, hES⟩
              obtain ⟨s1, hs1, hwayS, hbS, hinS⟩ := hwt
              obtain rfl : s1 = at2 := by simpa using hs1
              obtain ⟨rS, hrS⟩ := hwayS.head
              have hrl : rS.length = sg.length := by
                have h := congrArg List.length hrS
                simp at h
                omega
              obtain ⟨_, _, eS, hrowS⟩ := id hoS.row
              simp only [Value.slice.injEq] at eS
              obtain ⟨rfl, -, rfl⟩ := eS
              rw [hrS] at hrowS
              have hrowS' : Row wS 1 aS (sg.length + 1) cS (.int .i64 (s1 : Int) :: natV rS) := hrowS
              obtain ⟨bq, oq, _, k2, _⟩ := hrowS'.lie
              obtain rfl := k2 (by simp)
              have HRR := Lib.hid (row_rest hrowS')
              have hcS := hrowS'.le
              have HSS := Lib.hid (show ∀ x ∈ sg ++ [b'], Same next b8 x ∧ x < n from fun x hx => by
                have hsat := HSB.out s1 (by simp)
                have hre : Reach next s1 x := by
                  rcases List.mem_append.1 hx with h | h
                  · exact (hwayS.all x h).1
                  · simp at h; subst h; exact hwayS.reach
                have hxn : x < n := reach_in HK.out.ins HNL.out hre (reach_in HK.out.ins HNL.out hsat.1 HF.out.1)
                refine ⟨?_, hxn⟩
                rw [hrS] at hx hinS
                rcases List.mem_cons.1 hx with rfl | hx
                · exact hsat
                · exact (HPH.out x hxn).1 (hinS x hx))
              have HWS2 := Lib.hid hwayS
              have HRS := Lib.hid hrS
              have HBS := Lib.hid hbS
              have HES := Lib.hid (HEB.out.trans (HXQ.out.trans hES))
              have HLS := Lib.hid hrl
              have HOS := Lib.hid (own_ext HOB.out (HXQ.out.trans hES))
              clear hs1 hwayS hbS hinS hrS hrl hoS hrowS hrowS' hES HWA k2 g0 g1 g2 g3 g4 hq v0
              go_upto_region 22 with fail
              go_cut [79, 80, 81] (fun s79 s80 s81 wx => wx = wS ∧ s80 = .int .i64 (sg.length : Int) ∧ s81 = .int .i64 0 ∧ ∃ (ar : Option Addr) (cr : Nat), s79 = .slice ar sg.length cr ∧ Row wS 1 ar sg.length cr (natV rS))
              case first =>
                by_cases hc1 : cS = 1
                · obtain rfl : sg = [] := List.eq_nil_of_length_eq_zero (by omega)
                  subst hc1
                  have HRR1 := HRR.out
                  rw [if_pos rfl] at HRR1
                  go_wp2_with fail
                  go_meet
                  exact ⟨rfl, rfl, rfl, _, _, rfl, HRR1⟩
                · have hc2 : ¬ cS - 1 = 0 := by omega
                  have HRR1 := HRR.out
                  rw [if_neg hc1] at HRR1
                  go_wp2_with fail
                  go_meet
                  exact ⟨rfl, rfl, rfl, _, _, rfl, HRR1⟩
              case rest =>
              obtain ⟨rfl, rfl, rfl, ar, cr, rfl, hrow⟩ := hcut
              have HRO := Lib.hid hrow
              clear hrow
              go_wp2_with fail
              obtain ⟨wo2, rfl⟩ : ∃ wo : World, wo = wr := ⟨_, rfl⟩
              obtain ⟨G0, rfl⟩ : ∃ G0 : Nat, G0 = gk := ⟨_, rfl⟩
              have hz3S := blk_cell (blk_ext HB.out (HX5.out.trans (HX8.out.trans HES.out))) (i := 3) rfl
              have HXS := Lib.hid (HE.out.trans (HX5.out.trans (HX8.out.trans HES.out)))
              go_loopg [81, 14] sg.length (fun g x z wx => ∃ c : Nat, g + c = sg.length ∧ x = .int .i64 (c : Int) ∧ z = .int .i64 ((orL (bitsN sets) ((lp ++ [s1]) ++ rS.take c) : Nat) : Int) ∧ wx = wc)
              case atStart => exact ⟨0, by omega, by go_num, by rw [List.take_zero, List.append_nil, HMET.out], rfl⟩
              case round =>
                obtain ⟨c, hgc, rfl, rfl, rfl⟩ := hrel
                have HGC := Lib.hid hgc
                clear hgc
                by_cases hc : c < sg.length
                · have hcr : c < rS.length := by have := HLS.out; omega
                  have h1 := HRO.out
                  obtain ⟨bT, oT, i1, i2⟩ := row_cells (f := fun x : Nat => Value.int .i64 (x : Int)) h1
                  obtain rfl := i1 (by omega)
                  have ct' := i2 c hcr
                  have htc := h1.le
                  have hxs := (HSS.out rS[c] (by rw [HRS.out]; simp)).2
                  have HTK := Lib.hid (show (lp ++ [s1]) ++ rS.take (c + 1) = ((lp ++ [s1]) ++ rS.take c) ++ [rS[c]] from by rw [List.take_succ_eq_append_getElem hcr]; simp)
                  generalize rS[c] = x at *
                  have cs := HSC.out x hxs
                  replace cs := (World.cell?_of_block (HXS.out.block sb (World.block_lt_of_cell? _ _ cs))).trans cs
                  have h64 : bitsN sets x < 64 := by
                    have h1 := HBL.out x
                    have h2 := Nat.pow_le_pow_right (n := 2) (by omega) hm6
                    omega
                  have ho64 : orL (bitsN sets) ((lp ++ [s1]) ++ rS.take c) < 64 := by
                    have h1 := orL_lt HBL.out ((lp ++ [s1]) ++ rS.take c)
                    have h2 := Nat.pow_le_pow_right (n := 2) (by omega) hm6
                    omega
                  obtain ⟨mc, hmc⟩ : ∃ q, orL (bitsN sets) ((lp ++ [s1]) ++ rS.take c) = q := ⟨_, rfl⟩
                  rw [hmc] at ho64 ⊢
                  have HOR := Lib.hid (show orL (bitsN sets) ((lp ++ [s1]) ++ rS.take (c + 1)) = mc ||| bitsN sets x from by rw [HTK.out, orL_snoc, hmc])
                  generalize bitsN sets x = vx at *
                  have hor := i64_or_nat mc vx (by omega) (by omega)
                  have hcI : (c : Int) < (sg.length : Int) := by omega
                  have hc0 : (0 : Int) ≤ (c : Int) := by omega
                  have hxI : (x : Int) < (n : Int) := by omega
                  have hx0 : (0 : Int) ≤ (x : Int) := by omega
                  clear h1 i1 i2 hcr hmc
                  go_wp2_with fail
                  go_roundg (gk - 1)
                  case measure => have := HGC.out; omega
                  case rel => exact ⟨c + 1, by have := HGC.out; omega, by go_num, by rw [HOR.out], rfl⟩
                · obtain rfl : c = sg.length := by have := HGC.out; omega
                  have hcI : ¬ (sg.length : Int) < (sg.length : Int) := by omega
                  have HNM := Lib.hid (show orL (bitsN sets) ((lp ++ [s1]) ++ rS.take sg.length) = orL (bitsN sets) ((lp ++ sg) ++ [b']) from by
                    rw [← HLS.out, List.take_length, List.append_assoc lp sg [b'], HRS.out]
                    simp)
                  rw [HNM.out]
                  obtain ⟨mz, hmz⟩ : ∃ q, orL (bitsN sets) ((lp ++ sg) ++ [b']) = q := ⟨_, rfl⟩
                  rw [hmz]
                  have HMZ := Lib.hid hmz
                  clear hmz
                  have HNV := Lib.hid (show natV (lp ++ [s1]) ++ natV rS = natV ((lp ++ sg) ++ [b']) from by
                    rw [List.append_assoc lp sg [b'], HRS.out]
                    simp [natV])
                  have hszS := (HX8.out.trans HES.out).size
                  go_upto_region 27 with fail
                  obtain ⟨Lq, hLq⟩ : ∃ q, lp.length + sg.length = q := ⟨_, rfl⟩
                  have HLQ := Lib.hid hLq
                  have hLb : Lq + 1 ≤ 200000 := by omega
                  have hV : ∀ (v : Value) (wx : World) (k : Nat), wx.ownsRow w8.heap.size 3 1 v k (natV (lp ++ [s1]) ++ natV rS) → k = Lq + 1 → wx.ownsRow w8.heap.size 3 1 v (Lq + 1) (natV ((lp ++ sg) ++ [b'])) := by
                    intro v wx k h hk
                    rw [HNV.out] at h
                    rw [← hk]
                    exact h
                  have HV := Lib.hid hV
                  clear hLq hV
                  go_cut [13] (fun s13 wx => ∃ (al3 : Option Addr) (cl3 : Nat), s13 = .slice al3 (Lq + 1) cl3 ∧ wx.ownsRow w8.heap.size 3 1 (.slice al3 (Lq + 1) cl3) (Lq + 1) (natV ((lp ++ sg) ++ [b'])) ∧ Ext w8 wx)
                  case first =>
                    by_cases hc1 : cS = 1
                    · obtain rfl : sg = [] := List.eq_nil_of_length_eq_zero (by omega)
                      subst hc1
                      have HRR1 := HRR.out
                      rw [if_pos rfl] at HRR1
                      have HR2 := Lib.hid HRR1
                      clear HRR1
                      go_wp2_with (at_builtin; go_must (refine wpl_append rfl rfl Tryz.slIntsW w8.heap.size rfl HOS.out rfl HR2.out (natV_one rS) (by unfold maxLen; simp; omega) (by simp; omega) HES.out.size ?_))
                      intro v7 w7 hown7 hg7 hb7 _
                      have HO7 := Lib.hid (HV.out _ _ _ hown7 (by have := HLQ.out; simp at this ⊢; omega))
                      have HE7 := Lib.hid (show Ext w8 w7 from Below.grown HES.out hg7 HES.out.size (fun b hb => (HOS.out.lt b hb).1))
                      obtain ⟨a7, c7, rfl, _⟩ := id HO7.out.row
                      clear hown7 hg7 hb7
                      go_wp2_with fail
                      go_meet
                      exact ⟨_, _, rfl, HO7.out, HE7.out⟩
                    · have hc2 : ¬ cS - 1 = 0 := by omega
                      have HRR1 := HRR.out
                      rw [if_neg hc1] at HRR1
                      have HR2 := Lib.hid HRR1
                      clear HRR1
                      go_wp2_with (at_builtin; go_must (refine wpl_append rfl rfl Tryz.slIntsW w8.heap.size rfl HOS.out rfl HR2.out (natV_one rS) (by unfold maxLen; omega) (by omega) HES.out.size ?_))
                      intro v7 w7 hown7 hg7 hb7 _
                      have HO7 := Lib.hid (HV.out _ _ _ hown7 (by have := HLQ.out; omega))
                      have HE7 := Lib.hid (show Ext w8 w7 from Below.grown HES.out hg7 HES.out.size (fun b hb => (HOS.out.lt b hb).1))
                      obtain ⟨a7, c7, rfl, _⟩ := id HO7.out.row
                      clear hown7 hg7 hb7
                      go_wp2_with fail
                      go_meet
                      exact ⟨_, _, rfl, HO7.out, HE7.out⟩
                  case rest =>
                  obtain ⟨al3, cl3, rfl, hO3, hE3⟩ := hcut
                  have HO3 := Lib.hid hO3
                  have HE3 := Lib.hid hE3
                  obtain ⟨_, _, e3, hr3⟩ := id hO3.row
                  simp only [Value.slice.injEq] at e3
                  obtain ⟨rfl, -, rfl⟩ := e3
                  obtain ⟨bT, oT, i1, i2⟩ := row_cells (f := fun x : Nat => Value.int .i64 (x : Int)) hr3
                  have hlen3 : ((lp ++ sg) ++ [b']).length = Lq + 1 := by have := HLQ.out; simp; omega
                  obtain rfl := i1 (by omega)
                  have ct' := i2 Lq (by omega)
                  have htc := hr3.le
                  have e5 : ((lp ++ sg) ++ [b'])[Lq]'(by omega) = b' := by
                    have := HLQ.out
                    rw [List.getElem_append_right (by simp; omega)]
                    simp
                  rw [e5] at ct'
                  have HN5 := Lib.hid (show ∀ t, t < b + 1 → (orL (bitsN sets) ((lp ++ sg) ++ [b'])).testBit t = true from fun t ht => by
                    by_cases e : t = b
                    · subst e
                      exact (orL_bit _ _ _).2 ⟨b', by simp, HBS.out⟩
                    · obtain ⟨i, hi, hb⟩ := (orL_bit _ _ _).1 (HBB.out t (by omega))
                      refine (orL_bit _ _ _).2 ⟨i, ?_, hb⟩
                      rw [List.append_assoc, HRS.out]
                      rcases List.mem_append.1 hi with h | h
                      · exact List.mem_append_left _ h
                      · simp at h; subst h; simp)
                  have HS5 := Lib.hid (show ∀ x ∈ (lp ++ sg) ++ [b'], Same next b8 x from fun x hx => by
                    rw [List.append_assoc] at hx
                    rcases List.mem_append.1 hx with h | h
                    · exact HSB.out x (List.mem_append_left _ h)
                    · exact (HSS.out x h).1)
                  have hLb2 : lp.length + sg.length ≤ 20001 * (b + 1) := by omega
                  clear hO3 hE3 hr3 i1 i2 e5 hlen3
                  go_wp2_with fail
                  go_roundg (G0 - 1)
                  case measure => have := HGB.out; omega
                  case rel => exact ⟨b + 1, lp ++ sg, b', _, _, by have := HGB.out; omega, by go_num, by rw [List.length_append, HLQ.out], by rw [HMZ.out], rfl, HE3.out, by rw [List.length_append, HLQ.out]; exact HO3.out, HWB.out.app HWS2.out, HS5.out, HN5.out, by rw [List.length_append]; exact hLb2⟩
            · have HB1 := Lib.hid (show ∀ t, t < b + 1 → (orL (bitsN sets) (lp ++ [at2])).testBit t = true from fun t ht => by
                by_cases e : t = b
                · subst e; exact HTB.out
                · exact HBB.out t (by omega))
              go_wp2_with fail
              go_roundg (gk - 1)
              case measure => have := HGB.out; omega
              case rel => exact ⟨b + 1, lp, at2, al2, cl2, by have := HGB.out; omega, by go_num, rfl, by rw [HMET.out], rfl, HEB.out.trans HBX.out, own_ext HOB.out HBX.out, HWB.out, HSB.out, HB1.out, by omega⟩
          · obtain rfl : b = M := by have := HGB.out; omega
            have hbI : ¬ (b : Int) < (b : Int) := by omega
            have HXE := Lib.hid (HE.out.trans (HX5.out.trans (HX8.out.trans hE)))
            have HX5E := Lib.hid (HX8.out.trans hE)
            have z2 := blk_cell (blk_ext HB.out (HX5.out.trans HX5E.out)) (i := 2) rfl
            obtain ⟨-, hcl, hclm, bL, oL, l1, l2⟩ := HNN.out.cells
            have hatn : at2 < n := reach_in HK.out.ins HNL.out (hsame at2 (by simp)).1 HF.out.1
            obtain rfl := l1 (by omega)
            have hqN : at2 < next.length := by have := HNL.out; omega
            obtain ⟨aL, cL, cz, hil2⟩ := l2 at2 hqN
            replace cz := (World.cell?_of_block (HXE.out.block bL (World.block_lt_of_cell? _ _ cz))).trans cz
            have hlq := List.getElem?_eq_getElem hqN
            obtain ⟨l, hl⟩ : ∃ l, next[at2]'hqN = l := ⟨_, rfl⟩
            rw [hl] at cz hil2 hlq
            have HIL := Lib.hid (hil2.ext HXE.out)
            have HLQ := Lib.hid hlq
            have HLN := Lib.hid (show ∀ x ∈ l, 0 ≤ x ∧ x < (n : Int) from fun x hx => by have := HK.out.ins l (List.mem_of_getElem? hlq) x hx; exact this)
            have hqI : (at2 : Int) < (n : Int) := by omega
            have hq0 : (0 : Int) ≤ (at2 : Int) := by omega
            have hll : l.length ≤ 9223372036854775807 := by
              obtain ⟨_, _, e, hr⟩ := hil2
              simp only [Value.slice.injEq] at e
              obtain ⟨-, -, rfl⟩ := e
              have h1 := hr.le
              have h2 := hr.max
              unfold maxLen at h2
              omega
            unfold maxLen at hclm
            obtain ⟨wz, rfl⟩ : ∃ wo : World, wo = wr := ⟨_, rfl⟩
            clear hgb hE hO hway hsame hbits l2 hlq hl hil2
            go_wp2_with fail
            clear z2 cz
            go_loopg [110, 13] l.length (fun g x y wx => ∃ c : Nat, g + c = l.length ∧ x = .int .i64 (c : Int) ∧ y = .slice al2 (lp.length + 1) cl2 ∧ Ext wz wx ∧ ∀ (i : Nat) (k : Nat), i < c → l[i]? = some (k : Int) → pn k ≠ b8)
            case atStart => exact ⟨0, by omega, by go_num, rfl, Ext.refl _, fun i k h => by omega⟩
            case round =>
              obtain ⟨c, hgc, rfl, rfl, hE, hno⟩ := hrel
              have HGC := Lib.hid hgc
              have HEI := Lib.hid hE
              have HNI := Lib.hid hno
              clear hgc hE hno
              by_cases hc : c < l.length
              · have hil3 := HIL.out.ext HEI.out
                obtain ⟨_, _, e1, hr⟩ := id hil3
                simp only [Value.slice.injEq] at e1
                obtain ⟨rfl, -, rfl⟩ := e1
                obtain ⟨bI, oI, i1, i2⟩ := ints_cells hr
                obtain rfl := i1 (by omega)
                have ci := i2 c hc
                have hlc := List.getElem?_eq_getElem hc
                have hkb := HLN.out l[c] (by simp)
                obtain ⟨k2, hk2⟩ : ∃ k : Nat, l[c] = (k : Int) := ⟨l[c].toNat, by omega⟩
                rw [hk2] at ci hlc hkb
                have hkn : k2 < n := by omega
                have HLC := Lib.hid hlc
                have hcI : (c : Int) < (l.length : Int) := by omega
                have hc0 : (0 : Int) ≤ (c : Int) := by omega
                have hE5 : Ext W5 wr := HX5E.out.trans HEI.out
                have HE5 := Lib.hid hE5
                have HIC := Lib.hid fun (i : Nat) wx (hi : i < n) (hx : Ext wr wx) => clo_in i b8 H1 PB D n pn wx (blk_ext HH5.out (hE5.trans hx)) (blk_ext HP5.out (hE5.trans hx)) (by
                  have hc := own_cellAt HO5.out (i := i) (by simpa [lst] using hi)
                  have e : ((lst n pn).map (Value.int .i64))[i]'(by simpa [lst] using hi) = .int .i64 (pn i : Int) := by simp [lst]
                  rw [e] at hc
                  exact (World.cell?_of_block ((hE5.trans hx).block D (World.block_lt_of_cell? _ _ hc))).trans hc) hi
                clear hil3 hr i1 i2 hlc hkb hk2 hE5
                go_wp2_with fail
                refine (HIC.out k2 wr hkn (Ext.refl _)).mono ?_
                rintro e w5 ⟨rfl, hE5⟩
                have HEW := Lib.hid hE5
                have HE5W := Lib.hid (HEI.out.trans hE5)
                obtain ⟨ib, hib⟩ : ∃ q, (pn k2 == b8) = q := ⟨_, rfl⟩
                rw [hib]
                have HIB := Lib.hid hib
                clear hE5 hib
                cases ib
                · have HN6 := Lib.hid (show ∀ (i : Nat) (k : Nat), i < c + 1 → l[i]? = some (k : Int) → pn k ≠ b8 from fun i k hi hk => by
                    by_cases e : i = c
                    · subst e
                      have h1 := Option.some.inj (hk.symm.trans HLC.out)
                      obtain rfl : k = k2 := by omega
                      have h2 := HIB.out
                      simpa using h2
                    · exact HNI.out i k (by omega) hk)
                  go_wp2_with fail
                  go_roundg (gk - 1)
                  case measure => have := HGC.out; omega
                  case rel => exact ⟨c + 1, by have := HGC.out; omega, by go_num, rfl, HE5W.out, HN6.out⟩
                · have hxa := ext_al (Ext.refl w5) (Obj.cells #[.int .i64 (k2 : Int)] 3)
                  have HXA := Lib.hid hxa
                  have hE6 : Ext W5 (w5.alloc (Obj.cells #[.int .i64 (k2 : Int)] 3)) := HE5.out.trans (HEW.out.trans hxa)
                  have HW6 := Lib.hid (HE.out.trans (HX5.out.trans hE6))
                  have hgd := blk_ext HG5.out (HE5.out.trans HEW.out)
                  have g0 := blk_cell hgd (i := 0) rfl
                  have g1 := blk_cell hgd (i := 1) rfl
                  have g2 := blk_cell hgd (i := 2) rfl
                  have g3 := blk_cell hgd (i := 3) rfl
                  have g4 := blk_cell hgd (i := 4) rfl
                  have HFA := Lib.hid (show Reads (w5.alloc (Obj.cells #[.int .i64 (k2 : Int)] 3)) 1 (.slice (some ⟨w5.heap.size, 0, none⟩) 1 1) [k2].length (natV [k2]) from ⟨_, _, rfl, Row.oneG _ _ _ _ (by simp)⟩)
                  have hsk : Same next b8 k2 := (HPH.out k2 hkn).1 HIB.out
                  have HSG := Lib.hid (show ∃ l b', WayTo next [k2] (fun x => pn x == b8) (fun i => i == b8) l b' from way_seg (n := n) (fun x hx h => (HPH.out x hx).2 h) (fun x h => reach_in HK.out.ins HNL.out h.1 HF.out.1) hsk (Same.refl _ _) (by simp))
                  have hw := HWY.out _ HW6.out (.slice (some ⟨w5.heap.size, 0, none⟩) 1 1) [k2] HFA.out (by simp) (fun x hx => by simp at hx; subst hx; exact hkn) 67 69 #[.pointer (some ⟨PB, 0, none⟩), .pointer (some ⟨H1, 0, none⟩)] #[.pointer (some ⟨H1, 0, none⟩)]
                    (fun x => pn x == b8) (fun i => i == b8) (fun i wx hi hx => HIC.out i wx hi (HEW.out.trans (hxa.trans hx))) (fun i wx _ hx => clo_last i b8 H1 wx (blk_ext HH5.out (hE6.trans hx))) Tryz.enterIn Tryz.enterLast HSG.out
                  have HWA := Lib.hid hw
                  clear hxa hE6 hgd hsk hw HSG HFA
                  go_wp2_with fail
                  refine HWA.out.mono ?_
                  rintro e wS ⟨sg, b', aS, cS, rfl, hwt, hsl, hoS, hES⟩
                  obtain ⟨s1, hs1, hwayS, hbS, hinS⟩ := hwt
                  obtain rfl : s1 = k2 := by simpa using hs1
                  obtain rfl : b' = b8 := by simpa using hbS
                  have HWS2 := Lib.hid hwayS
                  have HTS := Lib.hid (HE5W.out.trans (HXA.out.trans hES))
                  have HOS := Lib.hid (own_ext HOB.out HTS.out)
                  obtain ⟨_, _, eS, hrowS⟩ := id hoS.row
                  simp only [Value.slice.injEq] at eS
                  obtain ⟨rfl, -, rfl⟩ := eS
                  have hcS := hrowS.le
                  have hrt := hrowS.take sg.length (by omega)
                  rw [Nat.mul_one, show (natV (sg ++ [b'])).take sg.length = natV sg by simp [natV]] at hrt
                  have HRT := Lib.hid hrt
                  have HES := Lib.hid (HEB.out.trans HTS.out)
                  have hlb : lp.length + 1 + sg.length ≤ 200000 := by omega
                  clear hs1 hwayS hbS hinS hoS hES hrowS hrt HWA g0 g1 g2 g3 g4
                  go_wp2_with (at_builtin; go_must (refine wpl_append rfl rfl Tryz.slIntsW w8.heap.size rfl HOS.out rfl HRT.out (natV_one sg) (by unfold maxLen; omega) (by omega) HES.out.size ?_))
                  intro v7 w7 hown7 hg7 hb7 _
                  have HE7 := Lib.hid (show Ext w8 w7 from Below.grown HES.out hg7 HES.out.size (fun b hb => (HOS.out.lt b hb).1))
                  have hHB : w8.heap.size ≤ w7.heap.size := HE7.out.size
                  have HO7 := Lib.hid (show w7.ownsRow w8.heap.size 3 1 v7 (lp.length + 1 + sg.length) (natV ((lp ++ [at2]) ++ sg)) from by
                    rw [show natV ((lp ++ [at2]) ++ sg) = natV (lp ++ [at2]) ++ natV sg by simp [natV]]
                    exact hown7)
                  obtain ⟨a7, c7, rfl, _⟩ := id hown7.row
                  have hbr := blk_ext HR.out (HX5.out.trans (HX8.out.trans HE7.out))
                  have r0 := blk_cell hbr (i := 0) rfl
                  have r1 := blk_cell hbr (i := 1) rfl
                  have f0 := blk_free hbr 0
                  have f1 := blk_free hbr 1
                  have hs8 := own_ext HS8.out HE7.out
                  have HS9 := Lib.hid hs8
                  obtain ⟨_, _, e8, hr8⟩ := id hs8.row
                  simp only [Value.slice.injEq] at e8
                  obtain ⟨rfl, -, rfl⟩ := e8
                  have hc8 := hr8.le
                  have hc8m := hr8.max
                  unfold maxLen at hc8m
                  have HRL := Lib.hid (blk_lt HR.out)
                  have HSZ := Lib.hid (HX5.out.trans HEE.out).size
                  have HXE7 := Lib.hid (HE.out.trans (HX5.out.trans (HX8.out.trans HE7.out)))
                  clear hown7 hg7 hb7 hs8 hr8 hbr
                  go_wp2_with fail
                  have hed : Edge next at2 s1 := ⟨l, HLQ.out, List.mem_of_getElem? HLC.out⟩
                  have hloop : Way next b' ((lp ++ [at2]) ++ sg) b' := (HWB.out.app (Way.one hed)).app HWS2.out
                  have hlen : ((lp ++ [at2]) ++ sg).length = lp.length + 1 + sg.length := by simp only [List.length_append, List.length_cons, List.length_nil]
                  have hok : LassoOk next (bitsN sets) b k st ((lp ++ [at2]) ++ sg) := ⟨s0, b', HWS.out, HWW.out, by omega, hloop, fun t ht => by
                    obtain ⟨i, hi, hb⟩ := (orL_bit _ _ _).1 (HBB.out t ht)
                    exact ⟨i, List.mem_append_left _ hi, hb⟩⟩
                  have hsn : s0 < n := by have := HWS.out; omega
                  have hlt : ∀ x ∈ st ++ ((lp ++ [at2]) ++ sg), x < n := fun x hx => by
                    rcases List.mem_append.1 hx with h | h
                    · exact reach_in HK.out.ins HNL.out (HWW.out.all x h).1 hsn
                    · exact reach_in HK.out.ins HNL.out (hloop.all x h).1 HF.out.1
                  have hsz8 := (HX5.out.trans HX8.out).size
                  have hrl := HRL.out
                  have hsz := HSZ.out
                  have o1 := own_setCell (own_setCell HS9.out (p := ⟨w.heap.size + 1, 0, none⟩) (.slice a8 st.length c8) (fun e => by have h : wo.heap.size ≤ w.heap.size + 1 := (HS9.out.lt _ e).1; omega)) (p := ⟨w.heap.size + 1, 1, none⟩) (.slice a7 (lp.length + 1 + sg.length) c7) (fun e => by have h : wo.heap.size ≤ w.heap.size + 1 := (HS9.out.lt _ e).1; omega)
                  have o2 := own_setCell (own_setCell HO7.out (p := ⟨w.heap.size + 1, 0, none⟩) (.slice a8 st.length c8) (fun e => by have h : w8.heap.size ≤ w.heap.size + 1 := (HO7.out.lt _ e).1; omega)) (p := ⟨w.heap.size + 1, 1, none⟩) (.slice a7 (lp.length + 1 + sg.length) c7) (fun e => by have h : w8.heap.size ≤ w.heap.size + 1 := (HO7.out.lt _ e).1; omega)
                  obtain ⟨_, _, e1, hr1⟩ := id o1.row
                  simp only [Value.slice.injEq] at e1
                  obtain ⟨rfl, -, rfl⟩ := e1
                  have hr1t := hr1.take st.length (by omega)
                  rw [Nat.mul_one, show (natV (st ++ [b'])).take st.length = natV st by simp [natV]] at hr1t
                  have hXF := ext_st (ext_st HXE7.out (p := ⟨w.heap.size + 1, 0, none⟩) (Nat.le_succ _) (.slice a8 st.length c8)) (p := ⟨w.heap.size + 1, 1, none⟩) (Nat.le_succ _) (.slice a7 (lp.length + 1 + sg.length) c7)
                  have hr2 := o2.reads
                  clear o1 o2 hr1
                  refine bodyPost_ret (v := .tuple #[.agg #[.slice a8 st.length c8, .slice a7 (lp.length + 1 + sg.length) c7], .int .i64 0]) (by simp [results, Tryz.results37, go_sem, r0, r1]) rfl ⟨.inl ⟨st, (lp ++ [at2]) ++ sg, a8, c8, a7, c7, by rw [hlen], ⟨_, _, rfl, hr1t⟩, by rw [hlen]; exact hr2, hok, hlt, ⟨by omega, by rw [hlen]; exact hlb⟩, b', HF.out⟩, hXF⟩
              · have hcI : ¬ (c : Int) < (l.length : Int) := by omega
                exfalso
                obtain ⟨k2, ⟨l', h1, h2⟩, h3⟩ := way_on HF.out.2.1 (HSB.out at2 (by simp))
                obtain rfl := Option.some.inj (HLQ.out.symm.trans h1)
                obtain ⟨i, hi, e⟩ := List.mem_iff_getElem.1 h2
                have hkn : k2 < n := by have := HLN.out _ h2; omega
                refine HNI.out i k2 (by omega) (by rw [List.getElem?_eq_getElem hi, e]) ?_
                simpa using (HPH.out k2 hkn).2 h3
  · have HNO := Lib.hid hno
    have HX1 := Lib.hid (HE.out.trans hE1)
    have hx2 := ext_al (Ext.refl w1) (Obj.cells #[.int .i64 0] 3)
    have hbr := blk_ext (blk_ext HR.out hE1) hx2
    have r0 := blk_cell hbr (i := 0) rfl
    have r1 := blk_cell hbr (i := 1) rfl
    have f0 := blk_free hbr 0
    have f1 := blk_free hbr 1
    have HXF := Lib.hid (ext_st (ext_st (HX1.out.trans hx2) (p := ⟨w.heap.size + 1, 0, none⟩) (Nat.le_succ _) (.slice none 0 0)) (p := ⟨w.heap.size + 1, 1, none⟩) (Nat.le_succ _) (.slice none 0 0))
    clear hno hE1 hx2 hbr HFA HPA
    go_wp2
    refine bodyPost_ret (v := .tuple #[.agg #[.slice none 0 0, .slice none 0 0], .int .i64 11]) (by simp [results, Tryz.results37, go_sem, r0, r1]) rfl ⟨.inr ⟨rfl, HNO.out⟩, HXF.out⟩

end Go.Proofs.YtbmimdnpchldlaaGreatDoor

namespace Go.Proofs.YtbmimdnpchldlaaGreatDoor
open Go.RowKit

/-- Places tell what leads on. -/
def Leads (X : List Sp2) (l : List Int) (ys : List Sp2) : Prop :=
  l.length = ys.length ∧ ∀ (t : Nat) (k : Int) (y : Sp2), l[t]? = some k → ys[t]? = some y → ∃ n : Nat, k = n ∧ X[n]? = some y

theorem Leads.nil (X : List Sp2) : Leads X [] [] := ⟨rfl, by intro t k y h; simp at h⟩
theorem Leads.grow {X : List Sp2} {l : List Int} {ys : List Sp2} (h : Leads X l ys) (Z : List Sp2) : Leads (X ++ Z) l ys := ⟨h.1, fun t k y hk hy => by
  obtain ⟨n, e, hn⟩ := h.2 t k y hk hy
  exact ⟨n, e, by rw [List.getElem?_append_left (List.getElem?_eq_some_iff.1 hn).1]; exact hn⟩⟩
theorem Leads.snoc {X : List Sp2} {l : List Int} {ys : List Sp2} (h : Leads X l ys) {n : Nat} {y : Sp2} (hy : X[n]? = some y) : Leads X (l ++ [(n : Int)]) (ys ++ [y]) := ⟨by simp [h.1], fun t k z hk hz => by
  by_cases ht : t < l.length
  · rw [List.getElem?_append_left ht] at hk
    rw [List.getElem?_append_left (by rw [← h.1]; exact ht)] at hz
    exact h.2 t k z hk hz
  · have e : t = l.length := by have := (List.getElem?_eq_some_iff.1 hk).1; simp at this; omega
    subst e
    rw [List.getElem?_append_right (by omega)] at hk
    rw [List.getElem?_append_right (by rw [h.1]; omega)] at hz
    rw [h.1] at hz
    simp at hk hz
    subst hk; subst hz
    exact ⟨n, rfl, hy⟩⟩

/-- A graph while it is explored: B what leads on, O what may be a spot, I where it begins; X the spots, nx the rows that are whole, cur the row that grows (t of what leads on). -/
structure XInv (B : Sp2 → List Sp2) (O : Sp2 → Prop) (I X : List Sp2) (nx : List (List Int)) (cur : List Int) (t : Nat) : Prop where
  nd : X.Nodup
  pre : X.take I.length = I
  ok : ∀ x ∈ X, O x
  le : nx.length ≤ X.length
  done : ∀ (j : Nat) (l : List Int) (x : Sp2), nx[j]? = some l → X[j]? = some x → Leads X l (B x)
  now : ∀ x, X[nx.length]? = some x → Leads X cur ((B x).take t)
  met : ∀ k, I.length ≤ k → k < X.length → ∃ (j : Nat) (l : List Int), j < k ∧ (nx ++ [cur])[j]? = some l ∧ (k : Int) ∈ l

section
variable {B : Sp2 → List Sp2} {O : Sp2 → Prop} {I X : List Sp2} {nx : List (List Int)} {cur : List Int} {t : Nat}

theorem XInv.start (h : I.Nodup) (ho : ∀ x ∈ I, O x) : XInv B O I I [] [] 0 where
  nd := h
  pre := List.take_length
  ok := ho
  le := Nat.zero_le _
  done := by intro j l x hj; simp at hj
  now := fun x _ => Leads.nil _
  met := fun k h1 h2 => by omega

theorem XInv.ilen (h : XInv B O I X nx cur t) : I.length ≤ X.length := by
  have := congrArg List.length h.pre
  rw [List.length_take] at this
  omega

theorem XInv.old (h : XInv B O I X nx cur t) {x : Sp2} (hx : X[nx.length]? = some x) {y : Sp2} (hy : (B x)[t]? = some y) {n : Nat} (hn : X[n]? = some y) : XInv B O I X nx (cur ++ [(n : Int)]) (t + 1) where
  nd := h.nd
  pre := h.pre
  ok := h.ok
  le := h.le
  done := h.done
  now := fun z hz => by
    obtain rfl : x = z := Option.some.inj (hx.symm.trans hz)
    rw [List.take_add_one, hy]
    exact (h.now _ hx).snoc hn
  met := fun k h1 h2 => by
    obtain ⟨j, l, hj, hl, hk⟩ := h.met k h1 h2
    by_cases e : j < nx.length
    · rw [List.getElem?_append_left e] at hl
      exact ⟨j, l, hj, by rw [List.getElem?_append_left e]; exact hl, hk⟩
    · have e2 : j = nx.length := by have := (List.getElem?_eq_some_iff.1 hl).1; simp at this; omega
      subst e2
      rw [List.getElem?_append_right (by omega)] at hl
      simp at hl
      subst hl
      exact ⟨nx.length, cur ++ [(n : Int)], hj, by simp, List.mem_append_left _ hk⟩

theorem XInv.grow (h : XInv B O I X nx cur t) {x : Sp2} (hx : X[nx.length]? = some x) {y : Sp2} (hy : (B x)[t]? = some y) (hn : y ∉ X) (ho : O y) : XInv B O I (X ++ [y]) nx (cur ++ [(X.length : Int)]) (t + 1) where
  nd := by
    rw [List.nodup_append]
    refine ⟨h.nd, by simp, ?_⟩
    intro a ha b hb e
    simp at hb
    subst hb; subst e
    exact hn ha
  pre := by rw [List.take_append_of_le_length h.ilen]; exact h.pre
  ok := fun z hz => by
    rcases List.mem_append.1 hz with hz | hz
    · exact h.ok z hz
    · simp at hz; subst hz; exact ho
  le := by have := h.le; simp; omega
  done := fun j l z hj hz => by
    have hjl := (List.getElem?_eq_some_iff.1 hj).1
    rw [List.getElem?_append_left (by have := h.le; omega)] at hz
    exact (h.done j l z hj hz).grow _
  now := fun z hz => by
    have hlt := (List.getElem?_eq_some_iff.1 hx).1
    rw [List.getElem?_append_left hlt] at hz
    obtain rfl : x = z := Option.some.inj (hx.symm.trans hz)
    rw [List.take_add_one, hy]
    exact ((h.now _ hx).grow [y]).snoc (by simp)
  met := fun k h1 h2 => by
    by_cases hk : k < X.length
    · obtain ⟨j, l, hj, hl, hk⟩ := h.met k h1 hk
      by_cases e : j < nx.length
      · rw [List.getElem?_append_left e] at hl
        exact ⟨j, l, hj, by rw [List.getElem?_append_left e]; exact hl, hk⟩
      · have e2 : j = nx.length := by have := (List.getElem?_eq_some_iff.1 hl).1; simp at this; omega
        subst e2
        rw [List.getElem?_append_right (by omega)] at hl
        simp at hl
        subst hl
        exact ⟨nx.length, cur ++ [(X.length : Int)], hj, by simp, List.mem_append_left _ hk⟩
    · have e : k = X.length := by simp at h2; omega
      subst e
      have hlt := (List.getElem?_eq_some_iff.1 hx).1
      exact ⟨nx.length, cur ++ [(X.length : Int)], hlt, by simp, by simp⟩

theorem XInv.row (h : XInv B O I X nx cur t) {x : Sp2} (hx : X[nx.length]? = some x) (ht : t = (B x).length) : XInv B O I X (nx ++ [cur]) [] 0 where
  nd := h.nd
  pre := h.pre
  ok := h.ok
  le := by have := (List.getElem?_eq_some_iff.1 hx).1; simp; omega
  done := fun j l z hj hz => by
    by_cases e : j < nx.length
    · rw [List.getElem?_append_left e] at hj
      exact h.done j l z hj hz
    · have e2 : j = nx.length := by have := (List.getElem?_eq_some_iff.1 hj).1; simp at this; omega
      subst e2
      rw [List.getElem?_append_right (by omega)] at hj
      simp at hj
      subst hj
      obtain rfl : x = z := Option.some.inj (hx.symm.trans hz)
      have := h.now _ hx
      rw [ht, List.take_length] at this
      exact this
  now := fun _ _ => Leads.nil _
  met := fun k h1 h2 => by
    obtain ⟨j, l, hj, hl, hk⟩ := h.met k h1 h2
    exact ⟨j, l, hj, by rw [List.getElem?_append_left (by have := (List.getElem?_eq_some_iff.1 hl).1; simpa using this)]; exact hl, hk⟩

/-- The graph when all is explored. -/
structure XDone (B : Sp2 → List Sp2) (O : Sp2 → Prop) (I X : List Sp2) (nx : List (List Int)) : Prop where
  nd : X.Nodup
  pre : X.take I.length = I
  ok : ∀ x ∈ X, O x
  len : nx.length = X.length
  lead : ∀ (j : Nat) (l : List Int) (x : Sp2), nx[j]? = some l → X[j]? = some x → Leads X l (B x)
  reach : ∀ k, k < X.length → ∃ s, s < I.length ∧ Reach nx s k

theorem XInv.last (h : XInv B O I X nx [] 0) (hl : nx.length = X.length) : XDone B O I X nx where
  nd := h.nd
  pre := h.pre
  ok := h.ok
  len := hl
  lead := h.done
  reach := by
    intro k
    induction k using Nat.strongRecOn with
    | ind k ih =>
      intro hk
      by_cases hi : k < I.length
      · exact ⟨k, hi, Reach.refl _⟩
      · obtain ⟨j, l, hj, hl2, hm⟩ := h.met k (by omega) hk
        obtain ⟨s, hs, hr⟩ := ih j hj (by omega)
        have : nx[j]? = some l := by
          by_cases e : j < nx.length
          · rw [List.getElem?_append_left e] at hl2; exact hl2
          · have e2 : j = nx.length := by have := (List.getElem?_eq_some_iff.1 hl2).1; simp at this; omega
            subst e2
            simp at hl2
            subst hl2
            simp at hm
        exact ⟨s, hs, hr.step ⟨l, this, hm⟩⟩

theorem XDone.ilen (h : XDone B O I X nx) : I.length ≤ X.length := by
  have := congrArg List.length h.pre
  rw [List.length_take] at this
  omega

theorem nodup_at {X : List Sp2} (h : X.Nodup) {i j : Nat} {x : Sp2} (hi : X[i]? = some x) (hj : X[j]? = some x) : i = j := by
  obtain ⟨a, ha⟩ := List.getElem?_eq_some_iff.1 hi
  obtain ⟨b, hb⟩ := List.getElem?_eq_some_iff.1 hj
  rw [List.Nodup, List.pairwise_iff_getElem] at h
  rcases Nat.lt_trichotomy i j with q | q | q
  · exact absurd (ha.trans hb.symm) (h i j a b q)
  · exact q
  · exact absurd (hb.trans ha.symm) (h j i b a q)

/-- A step in the graph is a step of what leads on. -/
theorem XDone.edge (h : XDone B O I X nx) {i k : Nat} {x : Sp2} (hx : X[i]? = some x) : Edge nx i k ↔ ∃ y, X[k]? = some y ∧ y ∈ B x := by
  have hi := (List.getElem?_eq_some_iff.1 hx).1
  have hl : nx[i]? = some (nx[i]'(by rw [h.len]; exact hi)) := List.getElem?_eq_getElem _
  have hL := h.lead i _ x hl hx
  constructor
  · rintro ⟨l, h1, h2⟩
    obtain rfl := Option.some.inj (hl.symm.trans h1)
    obtain ⟨t, ht, e⟩ := List.mem_iff_getElem.1 h2
    have hb : t < (B x).length := by rw [← hL.1]; exact ht
    obtain ⟨n, e1, e2⟩ := hL.2 t k (B x)[t] (by rw [List.getElem?_eq_getElem ht, e]) (List.getElem?_eq_getElem hb)
    have : n = k := by omega
    subst this
    exact ⟨_, e2, by simp⟩
  · rintro ⟨y, h1, h2⟩
    obtain ⟨t, ht, e⟩ := List.mem_iff_getElem.1 h2
    have hb : t < (nx[i]'(by rw [h.len]; exact hi)).length := by rw [hL.1]; exact ht
    obtain ⟨n, e1, e2⟩ := hL.2 t _ y (List.getElem?_eq_getElem hb) (by rw [List.getElem?_eq_getElem ht, e])
    obtain rfl := nodup_at h.nd e2 h1
    exact ⟨_, hl, by rw [← e1]; simp⟩

theorem XDone.inside (h : XDone B O I X nx) : Inside X.length nx := by
  intro l hl k hk
  obtain ⟨j, hj, e⟩ := List.mem_iff_getElem.1 hl
  have hx : j < X.length := by rw [← h.len]; exact hj
  have hL := h.lead j l X[j] (by rw [List.getElem?_eq_getElem hj, e]) (List.getElem?_eq_getElem hx)
  obtain ⟨t, ht, e2⟩ := List.mem_iff_getElem.1 hk
  have hb : t < (B X[j]).length := by rw [← hL.1]; exact ht
  obtain ⟨n, e3, e4⟩ := hL.2 t k (B X[j])[t] (by rw [List.getElem?_eq_getElem ht, e2]) (List.getElem?_eq_getElem hb)
  have := (List.getElem?_eq_some_iff.1 e4).1
  omega
end

theorem nodup_boundN : ∀ (n : Nat) {l : List Int}, l.Nodup → (∀ x ∈ l, 0 ≤ x ∧ x < (n : Int)) → l.length ≤ n
  | 0, l, _, h => by
    cases l with
    | nil => simp
    | cons x r => have := h x (by simp); omega
  | n + 1, l, hn, h => by
    by_cases hm : (n : Int) ∈ l
    · have h1 := nodup_boundN n (l := l.erase (n : Int)) (hn.erase _) fun x hx => by
        have h2 := hn.mem_erase_iff.1 hx
        have h3 := h x h2.2
        have h4 := h2.1
        omega
      rw [List.length_erase_of_mem hm] at h1
      omega
    · have h1 := nodup_boundN n hn fun x hx => by
        have h3 := h x hx
        have : x ≠ (n : Int) := fun e => hm (e ▸ hx)
        omega
      omega

/-- Pairs below two bounds that are all different are at most so many. -/
theorem pairs_bound (C N : Nat) {X : List Sp2} (hn : X.Nodup) (hb : ∀ x ∈ X, 0 ≤ x.1 ∧ x.1 < (C : Int) ∧ 0 ≤ x.2 ∧ x.2 < (N : Int)) : X.length ≤ C * N := by
  have h := nodup_boundN (C * N) (l := X.map fun x => x.1 * (N : Int) + x.2) (by
    rw [List.Nodup, List.pairwise_map]
    refine hn.imp_of_mem fun {a b} ha hb' hne e => hne ?_
    have h1 := hb a ha
    have h2 := hb b hb'
    have e1 : a.1 = b.1 := by
      have q1 : (a.1 * (N : Int) + a.2) / (N : Int) = a.1 := by
        rw [Int.add_comm, Int.add_mul_ediv_right _ _ (by omega), Int.ediv_eq_zero_of_lt h1.2.2.1 h1.2.2.2]; omega
      have q2 : (b.1 * (N : Int) + b.2) / (N : Int) = b.1 := by
        rw [Int.add_comm, Int.add_mul_ediv_right _ _ (by omega), Int.ediv_eq_zero_of_lt h2.2.2.1 h2.2.2.2]; omega
      rw [← q1, ← q2, e]
    have e2 : a.2 = b.2 := by rw [e1] at e; omega
    exact Prod.ext e1 e2) (by
    intro z hz
    obtain ⟨x, hx, rfl⟩ := List.mem_map.1 hz
    have h1 := hb x hx
    have hN : (0 : Int) < N := by omega
    refine ⟨by have := Int.mul_nonneg h1.1 (Int.le_of_lt hN); omega, ?_⟩
    have h2 : (x.1 + 1) * (N : Int) ≤ (C : Int) * (N : Int) := Int.mul_le_mul_of_nonneg_right (by omega) (by omega)
    rw [Int.add_mul] at h2
    push_cast
    omega)
  simpa using h

/-- The entries of the map of places. -/
def xL (X : List Sp2) : List (Sp2 × Value) := X.zipIdx.map fun p => (p.1, Value.int .i64 (p.2 : Int))
theorem xL_snoc (X : List Sp2) (y : Sp2) : xL (X ++ [y]) = xL X ++ [(y, .int .i64 (X.length : Int))] := by
  unfold xL
  rw [List.zipIdx_append]
  simp
theorem xL_none {X : List Sp2} {y : Sp2} (h : y ∉ X) : lkp y (xL X) = none := by
  rw [lkp_none]
  intro p hp
  obtain ⟨q, hq, rfl⟩ := List.mem_map.1 hp
  have := (List.mem_zipIdx hq).2.2
  intro e
  exact h (by rw [← e, this]; simp)
theorem xL_some {X : List Sp2} {y : Sp2} (h : y ∈ X) : ∃ n : Nat, X[n]? = some y ∧ lkp y (xL X) = some (.int .i64 (n : Int)) := by
  cases hv : lkp y (xL X) with
  | none =>
    rw [lkp_none] at hv
    obtain ⟨i, hi, e⟩ := List.mem_iff_getElem.1 h
    exact absurd e (hv (X[i], .int .i64 (i : Int)) (List.mem_map.2 ⟨(X[i], i), by rw [List.mem_zipIdx_iff_getElem?]; simp, rfl⟩))
  | some v =>
    obtain ⟨q, hq, e⟩ := List.mem_map.1 (lkp_some hv)
    rw [List.mem_zipIdx_iff_getElem?] at hq
    simp only [Prod.mk.injEq] at e
    obtain ⟨rfl, rfl⟩ := e
    exact ⟨q.2, hq, rfl⟩

end Go.Proofs.YtbmimdnpchldlaaGreatDoor

namespace Go.Proofs.YtbmimdnpchldlaaGreatDoor
open Go.RowKit

section
variable {P : Program}

theorem step_append {w : World} {ops : Array Oper} {o : Oper} {a : Act} {K : Act → World → Prop} {Q : Exit → Act → World → Prop} {E : Prop} (hgd : o.guard = none) {s x : Operand} {t : TypeId}
    (ho : o.op = .call { callee := .builtin .append, args := #[s, x], argTypes := #[t, t] })
    {e : TypeId} {z : Value} {size bytes : Nat} (T : SlTy P t e z size bytes) (base : Nat)
    {v : Value} {n : Nat} {xs : List Value} (hs : a.eval s = v) (hown : w.ownsRow base e size v n xs)
    {ao : Option Addr} {m c : Nat} {news : List Value} (hx : a.eval x = .slice ao m c) (hrow : Row w size ao m c news)
    (h1 : ∀ u ∈ news, u.oneCell' = true) (h63 : n + m ≤ maxLen) (hbytes : (n + m) * bytes ≤ 140737488355328) (hbase : base ≤ w.heap.size)
    (h : ∀ v' w', w'.ownsRow base e size v' (n + m) (xs ++ news) → w.grownBy w' v.ownBlock → (v'.ownBlock = v.ownBlock ∨ v'.ownBlock = some w.heap.size) → (v' = .slice none 0 0 ↔ v = .slice none 0 0 ∧ m = 0) →
      K (a.put o.dst v') w') : if Region.wanted o (yielded ops a.tmps) = true then Oper.wp P o a w K Q else E := by
  have hw : Region.wanted o (yielded ops a.tmps) = true := by simp [Region.wanted, hgd]
  rw [if_pos hw]
  obtain ⟨v', w', hr, h2, h3, h4, h5⟩ := run_append_row (P := P) w base (ty := o.type) T v n xs hown ao m c news hrow h1 h63 hbytes hbase
  unfold Oper.wp execOp
  simp only [ho, resolve, invoke, builtin, Sem.run_bind, Sem.run_pure, Result.andThen_ok, List.map_toArray, List.map_cons, List.map_nil, hs, hx, hr]
  exact h v' w' h2 h3 h4 h5

theorem conv_str {w : World} {v : Value} {l : List UInt8} (h : Bytes w v l) {src dst e : TypeId} (hs : P.underlying src = some (.slice e)) (he : P.underlying e = some (.int .u8)) (hd : P.underlying dst = some .string) :
    (convert src dst v).run P w = .ok (.string ⟨l.toArray⟩) w := by
  obtain ⟨a, cap, rfl, hr⟩ := h
  cases a with
  | none =>
    obtain ⟨h1, h2, h3⟩ := hr.none0
    obtain rfl : l = [] := List.eq_nil_of_length_eq_zero h1
    exact run_convert_bytes_nil w src e hs he _ _ dst hd
  | some p =>
    refine run_convert_bytes_back w src dst e p cap l hs he hd fun j hj => ?_
    exact hr.add j _ (by rw [List.getElem?_map, List.getElem?_eq_getElem hj]; rfl)
end

end Go.Proofs.YtbmimdnpchldlaaGreatDoor

namespace Go.Proofs.YtbmimdnpchldlaaGreatDoor
open Go.RowKit

def encSp (x : Sp2) : Value := .agg #[.int .i64 x.1, .int .i64 x.2]

set_option maxRecDepth 100000 in
theorem Tryz.spotEq (x y : Sp2) (w : World) : (Op.equalIn 10000 59 (encSp x) (encSp y)).run Tryz.prog w = .ok (decide (x = y)) w := by
  have u3 := Tryz.underlying3
  have a3 := Tryz.isAgg3
  have z3 := Tryz.sizeOf3
  obtain ⟨a, b⟩ := x
  obtain ⟨c, d⟩ := y
  have hS : Tryz.prog.underlying 59 = some (.struct (Tryz.prog.fieldsOf 59)) := by kernel_rfl
  unfold encSp
  rw [show (10000 : Nat) = 9999 + 1 from rfl, run_equalIn_agg w 9999 59 _ _ hS (by kernel_rfl)]
  simp only [Program.fieldsOf, Tryz.underlying59]
  go_simp
  by_cases h1 : a = c <;> by_cases h2 : b = d <;> simp [h1, h2]

section
variable {P : Program} {κ : Type} [DecidableEq κ] {enc : κ → Value} {kt : TypeId}
theorem find_asking (heq : ∀ a b w, (Op.equalIn 10000 kt (enc a) (enc b)).run P w = .ok (decide (a = b)) w) (w : World) (k : κ) : ∀ (es : List MapEntry) (l : List (κ × Value)) (i : Nat), es.map (fun e => (e.key, e.val)) = l.map (fun p => (enc p.1, p.2)) →
    (lkp k l = none → (Instr.findAsking kt (enc k) es i).run P w = .ok none w) ∧ (∀ x, lkp k l = some x → ∃ j, (Instr.findAsking kt (enc k) es i).run P w = .ok (some (j, x)) w)
  | [], [], i, _ => ⟨fun _ => by simp [Instr.findAsking], fun x h => by simp [lkp] at h⟩
  | [], _ :: _, i, h => by simp at h
  | _ :: _, [], i, h => by simp at h
  | e :: es, (n, v) :: l, i, h => by
    simp only [List.map_cons, List.cons.injEq, Prod.mk.injEq] at h
    obtain ⟨⟨hk, hv⟩, ht⟩ := h
    have ih := find_asking heq w k es l (i + 1) ht
    have he : (Op.equal kt (enc k) e.key).run P w = .ok (decide (k = n)) w := by rw [hk]; exact heq k n w
    unfold Instr.findAsking
    simp only [Sem.run_bind, he, Result.andThen_ok]
    by_cases hn : k = n
    · subst hn
      refine ⟨fun h => by simp [lkp] at h, fun x hx => ?_⟩
      simp [lkp] at hx
      subst hx
      exact ⟨i, by simp [hv]⟩
    · simp only [lkp, hn, decide_false, if_false, Bool.false_eq_true]
      exact ih

theorem KeyLaw.asking {fs : Array Field} (hd : P.underlying kt = some (.struct fs)) (hc : ∀ w b k, (Instr.checkKey b 10000 kt (enc k)).run P w = .ok () w)
    (heq : ∀ a b w, (Op.equalIn 10000 kt (enc a) (enc b)).run P w = .ok (decide (a = b)) w) : KeyLaw P kt enc where
  chk := hc
  find w k es l h := by
    have hf := find_asking heq w k es l 0 h
    cases es with
    | nil =>
      cases l with
      | nil => exact ⟨fun _ => by simp [Instr.findKey, run_underlying hd, Result.andThen, Instr.findNow], fun x hx => by simp [lkp] at hx⟩
      | cons p l => simp at h
    | cons e es =>
      have hnow : Instr.findNow (.struct fs) (enc k) (e :: es) 0 = none := by simp [Instr.findNow, Instr.sameNow]
      have hk : (Instr.findKey kt (enc k) (e :: es)).run P w = (Instr.findAsking kt (enc k) (e :: es) 0).run P w := by
        simp only [Instr.findKey, Sem.run_bind, run_underlying hd, Result.andThen_ok, hnow]
      rw [hk]
      exact hf
end

theorem Tryz.chkSp (n : Nat) (b : Bool) (x y : Int) (w : World) : (Instr.checkKey b (n + 1 + 1) 59 (.agg #[.int .i64 x, .int .i64 y])).run Tryz.prog w = .ok () w := by
  have u3 := Tryz.underlying3
  have a3 := Tryz.isAgg3
  have z3 := Tryz.sizeOf3
  have hk : ∀ v w, (Instr.checkKey b (n + 1) 3 (.int .i64 v)).run Tryz.prog w = .ok () w := fun v w => by
    rw [Instr.checkKey]
    simp only [Sem.run_bind, run_underlying u3, Result.andThen_ok, Sem.run_pure]
  rw [Instr.checkKey]
  simp only [Sem.run_bind, run_underlying Tryz.underlying59, Result.andThen_ok]
  rw [← Array.forIn_toList]
  simp only [List.forIn_cons, List.forIn_nil]
  go_simp
theorem Tryz.keySp : KeyLaw Tryz.prog 59 encSp :=
  KeyLaw.asking Tryz.underlying59 (fun w b k => Tryz.chkSp 9998 b k.1 k.2 w) Tryz.spotEq

/-- An atlas: its block, its map, and its rows. -/
structure ABox (τ : Nat → Nat) (B A M : Nat) (w0 w : World) (sp nx st : Value) (ini many : Int) (S : List Sp2) (L : List (List Int)) (T : List Int) : Prop where
  m : GMem τ B w sp nx st S L T
  a : w.heap[A]? = some (.cells #[sp, .int .i64 ini, nx, st, .int .i64 many, .map (some M)] 104 (0, 0))
  mp : MapG encSp w M (xL S)
  alt : A < B
  mlt : M < B
  ne : M ≠ A
  alo : w0.heap.size ≤ A
  mlo : w0.heap.size ≤ M
  e : Ext w0 w

section
variable {τ : Nat → Nat} {B A M : Nat} {w0 w wa w' : World} {sp nx st : Value} {ini many : Int} {S : List Sp2} {L : List (List Int)} {T : List Int}
theorem ABox.ext (h : ABox τ B A M w0 w sp nx st ini many S L T) (hE : Ext w w') : ABox τ B A M w0 w' sp nx st ini many S L T := ⟨h.m.ext hE, blk_ext h.a hE, h.mp.ext hE, h.alt, h.mlt, h.ne, h.alo, h.mlo, h.e.trans hE⟩
end

section
variable {τ : Nat → Nat} {B A M : Nat} {w0 w wa w6 w8 : World} {sp nx st : Value} {ini many : Int} {S : List Sp2} {L : List (List Int)} {T : List Int}
theorem GMem.grown0 (h : GMem τ B w sp nx st S L T) (hg : w.grownBy w6 (some M)) (hM : M < B) : GMem τ B w6 sp nx st S L T := by
  obtain ⟨vs, h1, h2⟩ := h.nx
  have h0 := h.lo M hM
  have key : ∀ t, t ≠ 0 → ∀ b, some M = some b → τ b ≠ t := fun t ht b hb => by injection hb with hb; subst hb; rw [h0]; exact Ne.symm ht
  exact ⟨h.lo, Nat.le_trans h.size hg.size, h.sp.grown hg (key 1 (by omega)), ⟨vs, h1.grown hg (key 2 (by omega)), h2.grown hg (key 3 (by omega))⟩, h.st.grown hg (key 4 (by omega))⟩

theorem ABox.push (h : ABox τ B A M w0 w sp nx st ini many S L T) {s : Sp2} (hm6 : MapG encSp w6 M (xL S ++ [(s, .int .i64 (S.length : Int))])) (hg6 : w.grownBy w6 (some M)) (hal : Ext w6 wa)
    {v' : Value} {n : Nat} {xs : List Value} (ho : w8.ownsRow B 59 2 v' n xs) (hn : n = S.length + 1) (hx : xs = S.flatMap spc ++ spc s) (hg : wa.grownBy w8 sp.ownBlock) (hb : v'.ownBlock = sp.ownBlock ∨ v'.ownBlock = some wa.heap.size) :
    w8.heap[A]? = some (.cells #[sp, .int .i64 ini, nx, st, .int .i64 many, .map (some M)] 104 (0, 0)) ∧
    ∃ τ', ABox τ' B A M w0 (w8.setCell ⟨A, 0, none⟩ v') v' nx st ini many (S ++ [s]) L T ∧ (∀ b, b < w.heap.size → τ' b = τ b) ∧ w.heap.size ≤ (w8.setCell ⟨A, 0, none⟩ v').heap.size ∧
      ∀ (t : Nat) (P : World → Prop), t ≠ 0 → t ≠ 1 → Ent τ t w P → Ent τ' t (w8.setCell ⟨A, 0, none⟩ v') P := by
  have hA := h.alt
  have hM := h.mlt
  have hne := h.ne
  have hal2 := h.alo
  have hml2 := h.mlo
  have hsz0 := h.m.size
  have hs6 := hg6.size
  have hsa := hal.size
  have h6 := h.m.grown0 hg6 hM
  have ha := h6.ext hal
  have hsp := ha.sp.own
  have hlow : ∀ k, k < B → some k ≠ sp.ownBlock := fun k hk e => by have := (hsp.lt k e.symm).1; omega
  have hA6 := blk_grown h.a hg6 (show some A ≠ some M from fun e => by injection e with e; omega)
  have hA8 := blk_grown (blk_ext hA6 hal) hg (hlow A hA)
  have hlo8 := (ha.appSp ho hn hx hg hb).lo A hA
  refine ⟨hA8, tagAt τ wa.heap.size 1, ⟨(ha.appSp ho hn hx hg hb).low (p := ⟨A, 0, none⟩) hA v', blk_set hA8 (i := 0) v', ?_, hA, hM, hne, hal2, hml2, ?_⟩, fun b hb' => tagAt_lt (by omega), ?_, ?_⟩
  · rw [xL_snoc]
    exact ((hm6.ext hal).grown hg (hlow M hM)).set (p := ⟨A, 0, none⟩) (Ne.symm hne) v'
  · have e1 : Ext w0 w6 := Below.grown h.e hg6 h.e.size (fun b hb' => by injection hb' with hb'; omega)
    exact ext_st (Below.grown (e1.trans hal) hg (e1.trans hal).size (fun b hb' => by have := (hsp.lt b hb').1; omega)) (p := ⟨A, 0, none⟩) hal2 v'
  · have := hg.size
    simp
    omega
  · intro t P ht0 ht1 hP
    have p6 := hP.grown hg6 (fun b hb' => by injection hb' with hb'; subst hb'; rw [h.m.lo _ hM]; exact Ne.symm ht0)
    exact ((p6.ext hal).app ha.sp hg (Ne.symm ht1)).set (p := ⟨A, 0, none⟩) (by show tagAt τ wa.heap.size 1 A ≠ t; rw [hlo8]; exact Ne.symm ht0) v'
end

/-- What place answers. -/
def PlaceR (τ : Nat → Nat) (B A M : Nat) (w0 w : World) (nx st : Value) (ini many : Int) (S : List Sp2) (L : List (List Int)) (T : List Int) (s : Sp2) (e : Ending) (w' : World) : Prop :=
  ∃ (n : Nat) (S' : List Sp2) (sp' : Value) (τ' : Nat → Nat), e = .returned (.tuple #[.int .i64 (n : Int), .bool true]) ∧ S'[n]? = some s ∧ (S' = S ∨ s ∉ S ∧ S' = S ++ [s] ∧ n = S.length) ∧
    ABox τ' B A M w0 w' sp' nx st ini many S' L T ∧ (∀ b, b < w.heap.size → τ' b = τ b) ∧ w.heap.size ≤ w'.heap.size ∧ ∀ (t : Nat) (P : World → Prop), t ≠ 0 → t ≠ 1 → Ent τ t w P → Ent τ' t w' P

set_option maxRecDepth 100000 in
set_option maxHeartbeats 4000000 in
theorem place_old (τ : Nat → Nat) (B A M : Nat) (w0 w : World) (sp nx st : Value) (ini many : Int) (S : List Sp2) (L : List (List Int)) (T : List Int) (s : Sp2) (h : ABox τ B A M w0 w sp nx st ini many S L T) (hs : s ∈ S) :
    Calls Tryz.prog 44 #[.pointer (some ⟨A, 0, none⟩), encSp s] w (PlaceR τ B A M w0 w nx st ini many S L T s) := by
  obtain ⟨n, hn, hlk⟩ := xL_some hs
  obtain ⟨s1, s2⟩ := s
  have hx := ext_al (Ext.refl w) (Obj.cells #[.int .i64 s1, .int .i64 s2] 59)
  have hb := blk_new w (Obj.cells #[.int .i64 s1, .int .i64 s2] 59)
  have a5 := blk_cell (blk_ext h.a hx) (i := 5) rfl
  have b0 := blk_cell hb (i := 0) rfl
  have b1 := blk_cell hb (i := 1) rfl
  have HLK := fun k => run_lookup_g (P := Tryz.prog) Tryz.keySp Tryz.underlying102 (h.mp.ext (Ext.trans hx (below_drewN (Ext.refl _) k))) (s1, s2) _ hlk true
  simp only [if_true] at HLK
  have HB := Lib.hid (h.ext hx)
  have HX := Lib.hid hx
  have HN := Lib.hid hn
  unfold encSp at HLK ⊢
  clear h hs hn hlk hx hb
  go_enter Tryz.func44, Tryz.ntmps44
  go_wp2_with fail
  generalize w.alloc (Obj.cells #[.int .i64 s1, .int .i64 s2] 59) = W1 at *
  go_quiet (fail)
  go_wp2
  go_ret2
  have hE : Ext w (W1.drewN nq) := Ext.trans HX.out (below_drewN (Ext.refl _) _)
  exact ⟨n, S, sp, τ, rfl, HN.out, .inl rfl, HB.out.ext (below_drewN (Ext.refl _) _), fun _ _ => rfl, hE.size, fun t P _ _ h => h.ext hE⟩

theorem Tryz.zeroIn (w : World) : (zeroValue 3).run Tryz.prog w = .ok (.int .i64 0) w := by kernel_rfl

set_option maxRecDepth 100000 in
set_option maxHeartbeats 4000000 in
theorem place_new (τ : Nat → Nat) (B A M : Nat) (w0 w : World) (sp nx st : Value) (ini many : Int) (S : List Sp2) (L : List (List Int)) (T : List Int) (s : Sp2) (h : ABox τ B A M w0 w sp nx st ini many S L T) (hs : s ∉ S) (hl : S.length < 20000) :
    Calls Tryz.prog 44 #[.pointer (some ⟨A, 0, none⟩), encSp s] w (PlaceR τ B A M w0 w nx st ini many S L T s) := by
  have hlk := xL_none hs
  obtain ⟨s1, s2⟩ := s
  have hx := ext_al (Ext.refl w) (Obj.cells #[.int .i64 s1, .int .i64 s2] 59)
  have hb := blk_new w (Obj.cells #[.int .i64 s1, .int .i64 s2] 59)
  have a5 := blk_cell (blk_ext h.a hx) (i := 5) rfl
  have b0 := blk_cell hb (i := 0) rfl
  have b1 := blk_cell hb (i := 1) rfl
  have HLK := fun k => run_lookup_gn (P := Tryz.prog) Tryz.keySp Tryz.underlying102 (h.mp.ext (Ext.trans hx (below_drewN (Ext.refl _) k))) (s1, s2) (Tryz.zeroIn _) hlk true
  simp only [if_true] at HLK
  have HB := Lib.hid (h.ext hx)
  have HX := Lib.hid hx
  have HBL := Lib.hid hb
  have HK := Lib.hid hlk
  have HS := Lib.hid hs
  obtain ⟨asp, csp, rfl, _⟩ := id h.m.sp.own.row
  obtain ⟨n, hn⟩ : ∃ n, S.length = n := ⟨_, rfl⟩
  have HN := Lib.hid hn
  rw [hn] at hl HB
  have hne : ((n : Int) == 20000) = false := by rw [beq_eq_false_iff_ne]; omega
  unfold encSp at HLK ⊢
  clear h hs hlk hx hb hn
  go_enter Tryz.func44, Tryz.ntmps44
  go_wp2_with fail
  generalize w.alloc (Obj.cells #[.int .i64 s1, .int .i64 s2] 59) = W1 at *
  go_quiet (fail)
  have hE2 : Ext W1 (W1.drewN nq) := below_drewN (Ext.refl _) _
  have HB2 := Lib.hid (HB.out.ext hE2)
  have HX2 := Lib.hid (Ext.trans HX.out hE2)
  have HBL2 := Lib.hid (blk_ext HBL.out hE2)
  clear hE2 HLK a5 b0 b1 HB HX HBL
  generalize W1.drewN nq = W2 at *
  have a0 := blk_cell HB2.out.a (i := 0) rfl
  have a5 := blk_cell HB2.out.a (i := 5) rfl
  have b0 := blk_cell HBL2.out (i := 0) rfl
  have b1 := blk_cell HBL2.out (i := 1) rfl
  go_wp2_with fail
  refine region_tail 6 (by kernel_rfl) (by kernel_rfl) ?_
  simp only [List.take_succ_cons, List.take_zero, List.drop_succ_cons, List.drop_zero]
  repeat still_step
  try refine wpStill_nil ?_
  go_wp2_with (at_mapUpdate; go_must (refine wpl_update_g Tryz.keySp Tryz.underlying102 rfl rfl (HB2.out.ext (Below.drew (Ext.refl _))).mp rfl rfl HK.out ?_))
  intro w6 hm6 hg6 hs6
  have HM6 := Lib.hid hm6
  have HG6 := Lib.hid hg6
  have HB3 := Lib.hid (HB2.out.ext (Below.drew (Ext.refl _)))
  have HX3 := Lib.hid (HX2.out.trans (Below.drew (Ext.refl _)))
  have hne2 := HB2.out.ne
  have hlt2 := HB2.out.alt
  have hA6 := blk_grown HB3.out.a hg6 (show some A ≠ some M from fun e => by injection e with e; omega)
  have hZM : w.heap.size ≠ M := fun e => by
    have h1 := HB2.out.mp
    obtain ⟨es, ck, h1, _⟩ := h1
    rw [← e, HBL2.out] at h1
    cases h1
  have hB6 := blk_grown (blk_ext HBL2.out (Below.drew (Ext.refl _))) hg6 (show some w.heap.size ≠ some M from fun e => by injection e with e; omega)
  have a0 := blk_cell hA6 (i := 0) rfl
  have b0 := blk_cell hB6 (i := 0) rfl
  have b1 := blk_cell hB6 (i := 1) rfl
  have hal := ext_al (Ext.refl w6) (Obj.cells #[.int .i64 s1, .int .i64 s2] 59)
  have cX := blk_cell (blk_ext hA6 hal) (i := 0) rfl
  have HAL := Lib.hid (show Ext w6 (w6.alloc (Obj.cells #[.int .i64 s1, .int .i64 s2] 59)).drew from Below.drew hal)
  have hsz6 := hg6.size
  have HSP := Lib.hid ((HB3.out.m.grown0 hg6 HB2.out.mlt).ext HAL.out).sp.own
  have hszB := HB3.out.m.size
  rw [HN.out] at HSP
  clear hm6 hg6 hs6 hA6 hB6 hal
  go_wp2_with fail
  go_region_law (refine step_append rfl rfl Tryz.slSpots B (by rfl) HSP.out (by rfl) ((Row.newSp _ _ _ _).ext (Below.drew (Ext.refl _))) (by intro u hu; simp only [spc, List.mem_cons, List.not_mem_nil, or_false] at hu; rcases hu with rfl | rfl <;> rfl) (by unfold maxLen; omega) (by omega) (by simp; omega) ?_
                 intro v8 w8 hown8 hg8 hb8 _
                 obtain ⟨hA8, τ8, hB8, ht8, hs8, hk8⟩ := HB3.out.push (s := (s1, s2)) (by rw [HN.out]; exact HM6.out) HG6.out HAL.out hown8 (by rw [HN.out]) rfl hg8 hb8
                 obtain ⟨a8, c8, rfl, _⟩ := hown8.row
                 have cG8 := blk_cell hA8 (i := 0) rfl
                 have fG8 := blk_free hA8 0
                 have HB8 := Lib.hid hB8
                 have HT8 := Lib.hid ht8
                 have HS8 := Lib.hid hs8
                 have HK8 := Lib.hid hk8
                 clear hA8 hB8 ht8 hs8 hk8 hown8 hg8 hb8)
  all_goals
    go_wp2
    go_ret2
    have hsz := HX3.out.size
    exact ⟨n, S ++ [(s1, s2)], _, τ8, rfl, by rw [← HN.out]; simp, .inr ⟨HS.out, rfl, HN.out.symm⟩, HB8.out, fun b hb => HT8.out b (by omega), by have := HS8.out; omega, fun t P h0 h1 hP => HK8.out t P h0 h1 (hP.ext HX3.out)⟩

end Go.Proofs.YtbmimdnpchldlaaGreatDoor

namespace Go.Proofs.YtbmimdnpchldlaaGreatDoor

/-- An op: its kind, its value. -/
abbrev Op2 := Int × Int

def partsOf (k : Int) : Nat :=
  if k = 3 ∨ k = 4 ∨ k = 5 ∨ k = 6 ∨ k = 7 ∨ k = 8 ∨ k = 9 ∨ k = 15 ∨ k = 16 then 2
  else if k = 10 ∨ k = 14 ∨ k = 17 ∨ k = 18 then 1 else 0

/-- (*reader).skip: where what begins at a place ends, or what it panics with; and the table. -/
def loopL (rec : Nat → List Int → (Except Int Nat) × List Int) : Nat → Nat → List Int → (Except Int Nat) × List Int
  | 0, e, es => (.ok e, es)
  | n + 1, e, es => match rec e es with
    | (.ok e', es') => loopL rec n e' es'
    | r => r

def closeL (p : Nat) : (Except Int Nat) × List Int → (Except Int Nat) × List Int
  | (.ok e, es) => (.ok e, es.set p (e : Int))
  | r => r

def skipL (l : List Op2) : Nat → Nat → List Int → (Except Int Nat) × List Int
  | 0, _, es => (.error 4, es)
  | f + 1, at', es =>
    if h : at' < l.length then
      if 1 ≤ l[at'].1 ∧ l[at'].1 ≤ 18 then
        closeL at' (loopL (skipL l f) (partsOf l[at'].1) (at' + 1) es)
      else (.error 13, es)
    else (.error 4, es)

/-- polish.Ends: the table, or the errno. -/
def endsL (l : List Op2) : Except Int (List Int) :=
  if l.length > 60 then .error 1
  else match skipL l (l.length + 1) 0 (List.replicate l.length 0) with
    | (.ok n, es) => if n = l.length then .ok es else .error 3
    | (.error c, _) => .error c

/-- Terms as trees. -/
inductive Tm where
  | n0 (k v : Int)
  | n1 (k v : Int) (a : Tm)
  | n2 (k v : Int) (a b : Tm)

def Tm.flat : Tm → List Op2
  | .n0 k v => [(k, v)]
  | .n1 k v a => (k, v) :: a.flat
  | .n2 k v a b => (k, v) :: (a.flat ++ b.flat)

def Tm.size : Tm → Nat
  | .n0 _ _ => 1
  | .n1 _ _ a => a.size + 1
  | .n2 _ _ a b => a.size + b.size + 1

theorem Tm.flat_len (t : Tm) : t.flat.length = t.size := by
  induction t with
  | n0 => rfl
  | n1 k v a ih => simp [flat, size, ih]
  | n2 k v a b ih1 ih2 => simp [flat, size, ih1, ih2]

theorem Tm.size_pos (t : Tm) : 0 < t.size := by cases t <;> simp [size]

/-- Each op has as many parts as its kind has. -/
def Tm.ok : Tm → Prop
  | .n0 k _ => 1 ≤ k ∧ k ≤ 18 ∧ partsOf k = 0
  | .n1 k _ a => 1 ≤ k ∧ k ≤ 18 ∧ partsOf k = 1 ∧ a.ok
  | .n2 k _ a b => 1 ≤ k ∧ k ≤ 18 ∧ partsOf k = 2 ∧ a.ok ∧ b.ok

/-- The ends of a term that begins at p, place by place. -/
def Tm.ends : Tm → Nat → List Int
  | .n0 _ _, p => [(p : Int) + 1]
  | .n1 _ _ a, p => ((p + 1 + a.size : Nat) : Int) :: a.ends (p + 1)
  | .n2 _ _ a b, p => ((p + 1 + a.size + b.size : Nat) : Int) :: (a.ends (p + 1) ++ b.ends (p + 1 + a.size))

theorem Tm.ends_len (t : Tm) : ∀ p, (t.ends p).length = t.size := by
  induction t with
  | n0 => intro p; rfl
  | n1 k v a ih => intro p; simp [ends, size, ih]
  | n2 k v a b ih1 ih2 => intro p; simp [ends, size, ih1, ih2]

theorem skip_term (t : Tm) (ht : t.ok) : ∀ (pre post : List Op2) (f : Nat) (ea em eb : List Int), (pre ++ t.flat ++ post).length < pre.length + f → ea.length = pre.length → em.length = t.size →
    skipL (pre ++ t.flat ++ post) f pre.length (ea ++ em ++ eb) = (.ok (pre.length + t.size), ea ++ t.ends pre.length ++ eb) := by
  induction t with
  | n0 k v =>
    intro pre post f ea em eb hf ha hm
    obtain ⟨h1, h2, h3⟩ := ht
    cases f with
    | zero => simp only [List.length_append] at hf; omega
    | succ f =>
      have hl : pre.length < (pre ++ Tm.flat (.n0 k v) ++ post).length := by simp [Tm.flat]
      have hg : (pre ++ Tm.flat (.n0 k v) ++ post)[pre.length] = (k, v) := by simp [Tm.flat]
      unfold skipL
      rw [dif_pos hl, hg]
      simp only [h1, h2, h3, and_self, if_true, loopL, closeL, Tm.size, Tm.ends]
      obtain ⟨x, rfl⟩ := List.length_eq_one_iff.1 hm
      simp [ha]
  | n1 k v a ih =>
    intro pre post f ea em eb hf ha hm
    obtain ⟨h1, h2, h3, h4⟩ := ht
    cases f with
    | zero => simp only [List.length_append] at hf; omega
    | succ f =>
      have hl : pre.length < (pre ++ Tm.flat (.n1 k v a) ++ post).length := by simp [Tm.flat]
      have hg : (pre ++ Tm.flat (.n1 k v a) ++ post)[pre.length] = (k, v) := by simp [Tm.flat]
      cases em with
      | nil => simp [Tm.size] at hm
      | cons x em =>
        have e1 : pre ++ Tm.flat (.n1 k v a) ++ post = (pre ++ [(k, v)]) ++ a.flat ++ post := by simp [Tm.flat]
        have e2 : ea ++ (x :: em) ++ eb = (ea ++ [x]) ++ em ++ eb := by simp
        have := ih h4 (pre ++ [(k, v)]) post f (ea ++ [x]) em eb (by rw [e1] at hf; simp at hf ⊢; omega) (by simp [ha]) (by simpa [Tm.size] using hm)
        unfold skipL
        rw [dif_pos hl, hg]
        simp only [h1, h2, h3, and_self, if_true, loopL]
        rw [e1, e2]
        rw [show pre.length + 1 = (pre ++ [(k, v)]).length by simp, this]
        simp only [closeL]
        simp [Tm.size, Tm.ends, ha]
        omega
  | n2 k v a b ih1 ih2 =>
    intro pre post f ea em eb hf ha hm
    obtain ⟨h1, h2, h3, h4, h5⟩ := ht
    cases f with
    | zero => simp only [List.length_append] at hf; omega
    | succ f =>
      have hl : pre.length < (pre ++ Tm.flat (.n2 k v a b) ++ post).length := by simp [Tm.flat]
      have hg : (pre ++ Tm.flat (.n2 k v a b) ++ post)[pre.length] = (k, v) := by simp [Tm.flat]
      cases em with
      | nil => simp [Tm.size] at hm
      | cons x em =>
        have hm' : em.length = a.size + b.size := by simpa [Tm.size] using hm
        have e1 : pre ++ Tm.flat (.n2 k v a b) ++ post = (pre ++ [(k, v)]) ++ a.flat ++ (b.flat ++ post) := by simp [Tm.flat]
        have e1' : (pre ++ [(k, v)]) ++ a.flat ++ (b.flat ++ post) = (pre ++ [(k, v)] ++ a.flat) ++ b.flat ++ post := by simp
        have e2 : ea ++ (x :: em) ++ eb = (ea ++ [x]) ++ em.take a.size ++ (em.drop a.size ++ eb) := by
          simp only [List.append_assoc, List.cons_append, List.nil_append]
          rw [← List.append_assoc (List.take a.size em), List.take_append_drop]
        have g1 := ih1 h4 (pre ++ [(k, v)]) (b.flat ++ post) f (ea ++ [x]) (em.take a.size) (em.drop a.size ++ eb) (by rw [e1] at hf; simp at hf ⊢; omega) (by simp [ha]) (by simp; omega)
        have g2 := ih2 h5 (pre ++ [(k, v)] ++ a.flat) post f (ea ++ [x] ++ a.ends (pre ++ [(k, v)]).length) (em.drop a.size) eb (by rw [e1, e1'] at hf; simp at hf ⊢; omega) (by simp [ha, Tm.ends_len, Tm.flat_len]) (by simp; omega)
        unfold skipL
        rw [dif_pos hl, hg]
        simp only [h1, h2, h3, and_self, if_true, loopL]
        rw [e1, e2, show pre.length + 1 = (pre ++ [(k, v)]).length by simp, g1]
        simp only []
        rw [e1']
        have e3 : ea ++ [x] ++ a.ends (pre ++ [(k, v)]).length ++ (em.drop a.size ++ eb) = (ea ++ [x] ++ a.ends (pre ++ [(k, v)]).length) ++ em.drop a.size ++ eb := by simp
        have e4 : (pre ++ [(k, v)] ++ a.flat).length = pre.length + 1 + a.size := by simp [Tm.flat_len]; omega
        have e5 : (pre ++ [(k, v)]).length = pre.length + 1 := by simp
        rw [e4, e5] at g2
        rw [e3, e5, g2]
        simp only [closeL]
        refine Prod.ext ?_ ?_
        · simp [Tm.size]; omega
        · simp [Tm.ends, ha]

theorem ends_term (t : Tm) (ht : t.ok) (hs : t.size ≤ 60) : endsL t.flat = .ok (t.ends 0) := by
  have h := skip_term t ht [] [] (t.flat.length + 1) [] (List.replicate t.flat.length 0) [] (by simp) rfl (by simp [Tm.flat_len])
  simp only [List.nil_append, List.append_nil, List.length_nil, Nat.zero_add] at h
  unfold endsL
  rw [if_neg (by rw [Tm.flat_len]; omega), h]
  simp [Tm.flat_len]

end Go.Proofs.YtbmimdnpchldlaaGreatDoor

namespace Go.Proofs.YtbmimdnpchldlaaGreatDoor

def rawAt (raw : List Op2) (p : Nat) : Op2 := raw.getD p (0, 0)

def numLeaf (r : Op2) (vars k : Int) : Tm := if k = 1 ∧ 0 < vars then .n0 2 (pk r.2 vars) else .n0 1 (pk r.2 9 - 4)
def numKind (r : Op2) (p : Nat) : Int := if 14 < p + 1 then pk r.1 2 else pk r.1 5

def numT (raw : List Op2) (vars : Int) : Nat → Nat → Tm × Nat
  | 0, p => (numLeaf (rawAt raw p) vars (pk (rawAt raw p).1 2), p + 1)
  | d + 1, p =>
    if numKind (rawAt raw p) p < 2 then (numLeaf (rawAt raw p) vars (numKind (rawAt raw p) p), p + 1)
    else (.n2 (numKind (rawAt raw p) p + 1) 0 (numT raw vars d (p + 1)).1 (numT raw vars d (numT raw vars d (p + 1)).2).1, (numT raw vars d (numT raw vars d (p + 1)).2).2)

def truKind (r : Op2) (d p : Nat) : Int := if d = 0 ∨ 10 < p + 1 then pk r.1 3 else pk r.1 9

/-- A comparison of two numbers. -/
def cmpT (raw : List Op2) (vars k : Int) (p : Nat) : Tm × Nat :=
  (.n2 (6 + k % 2) 0 (numT raw vars 1 (p + 1)).1 (numT raw vars 1 (numT raw vars 1 (p + 1)).2).1, (numT raw vars 1 (numT raw vars 1 (p + 1)).2).2)

def truT (raw : List Op2) (vars : Int) : Nat → Nat → Tm × Nat
  | 0, p =>
    if truKind (rawAt raw p) 0 p = 0 then (.n0 (11 + pk (rawAt raw p).2 2) 0, p + 1)
    else cmpT raw vars (truKind (rawAt raw p) 0 p) p
  | d + 1, p =>
    if truKind (rawAt raw p) (d + 1) p = 0 then (.n0 (11 + pk (rawAt raw p).2 2) 0, p + 1)
    else if truKind (rawAt raw p) (d + 1) p < 5 then cmpT raw vars (truKind (rawAt raw p) (d + 1) p) p
    else if truKind (rawAt raw p) (d + 1) p = 5 then (.n1 10 0 (truT raw vars d (p + 1)).1, (truT raw vars d (p + 1)).2)
    else (.n2 (8 + truKind (rawAt raw p) (d + 1) p % 2) 0 (truT raw vars d (p + 1)).1 (truT raw vars d (truT raw vars d (p + 1)).2).1, (truT raw vars d (truT raw vars d (p + 1)).2).2)

/-! What is made: as many ops as raw ones are taken; each op has its parts; not too many. -/
theorem numKind_bd (r : Op2) (p : Nat) : 0 ≤ numKind r p ∧ numKind r p < 5 := by
  unfold numKind
  have h1 := pk_bd r.1 2 (by omega)
  have h2 := pk_bd r.1 5 (by omega)
  split <;> omega

theorem numLeaf_size (r : Op2) (vars k : Int) : (numLeaf r vars k).size = 1 := by unfold numLeaf; split <;> rfl

theorem numT_size (raw : List Op2) (vars : Int) : ∀ d p, (numT raw vars d p).2 = p + (numT raw vars d p).1.size := by
  intro d
  induction d with
  | zero => intro p; simp [numT, numLeaf_size]
  | succ d ih =>
    intro p
    unfold numT
    split
    · simp [numLeaf_size]
    · have h1 := ih (p + 1)
      have h2 := ih (numT raw vars d (p + 1)).2
      simp only [Tm.size]
      omega

theorem numT_one (raw : List Op2) (vars : Int) (p : Nat) : ((numT raw vars 1 p).1.size = 1 ∨ (numT raw vars 1 p).1.size = 3) ∧ (14 ≤ p → (numT raw vars 1 p).1.size = 1) := by
  unfold numT
  split
  · simp [numLeaf_size]
  · refine ⟨.inr ?_, fun h => ?_⟩
    · simp [Tm.size, numT, numLeaf_size]
    · rename_i h2
      exfalso
      apply h2
      unfold numKind
      rw [if_pos (by omega)]
      exact (pk_bd _ 2 (by omega)).2

theorem numT_two (raw : List Op2) (vars : Int) (p : Nat) : (numT raw vars 2 p).1.size ≤ 7 := by
  rw [numT]
  split
  · simp [numLeaf_size]
  · have h1 := (numT_one raw vars (p + 1)).1
    have h2 := (numT_one raw vars (numT raw vars 1 (p + 1)).2).1
    simp only [Tm.size]
    omega

theorem numLeaf_ok (r : Op2) (vars k : Int) : (numLeaf r vars k).ok := by
  unfold numLeaf
  split <;> simp [Tm.ok, partsOf]

theorem numT_ok (raw : List Op2) (vars : Int) : ∀ d p, (numT raw vars d p).1.ok := by
  intro d
  induction d with
  | zero => intro p; exact numLeaf_ok _ _ _
  | succ d ih =>
    intro p
    unfold numT
    split
    · exact numLeaf_ok _ _ _
    · rename_i h
      have hb := numKind_bd (rawAt raw p) p
      refine ⟨by omega, by omega, ?_, ih _, ih _⟩
      unfold partsOf
      rw [if_pos (by omega)]

theorem truKind_bd (r : Op2) (d p : Nat) : 0 ≤ truKind r d p ∧ truKind r d p < 9 ∧ (d = 0 ∨ 10 ≤ p → truKind r d p < 3) := by
  unfold truKind
  have h1 := pk_bd r.1 3 (by omega)
  have h2 := pk_bd r.1 9 (by omega)
  split <;> omega

theorem cmpT_size (raw : List Op2) (vars k : Int) (p : Nat) : (cmpT raw vars k p).2 = p + (cmpT raw vars k p).1.size := by
  have h1 := numT_size raw vars 1 (p + 1)
  have h2 := numT_size raw vars 1 (numT raw vars 1 (p + 1)).2
  simp only [cmpT, Tm.size]
  omega

theorem truT_size (raw : List Op2) (vars : Int) : ∀ d p, (truT raw vars d p).2 = p + (truT raw vars d p).1.size := by
  intro d
  induction d with
  | zero => intro p; unfold truT; split; (· simp [Tm.size]); · exact cmpT_size _ _ _ _
  | succ d ih =>
    intro p
    unfold truT
    split
    · simp [Tm.size]
    · split
      · exact cmpT_size _ _ _ _
      · have h1 := ih (p + 1)
        have h2 := ih (truT raw vars d (p + 1)).2
        split <;> simp only [Tm.size] <;> omega

theorem cmpT_ok (raw : List Op2) (vars k : Int) (p : Nat) : (cmpT raw vars k p).1.ok := by
  refine ⟨by omega, by omega, ?_, numT_ok _ _ _ _, numT_ok _ _ _ _⟩
  unfold partsOf
  rw [if_pos (by omega)]

theorem truT_ok (raw : List Op2) (vars : Int) : ∀ d p, (truT raw vars d p).1.ok := by
  have leaf : ∀ p, (Tm.n0 (11 + pk (rawAt raw p).2 2) 0).ok := by
    intro p
    have := pk_bd (rawAt raw p).2 2 (by omega)
    refine ⟨by omega, by omega, ?_⟩
    unfold partsOf
    rw [if_neg (by omega), if_neg (by omega)]
  intro d
  induction d with
  | zero => intro p; unfold truT; split; (· exact leaf p); · exact cmpT_ok _ _ _ _
  | succ d ih =>
    intro p
    unfold truT
    split
    · exact leaf p
    · split
      · exact cmpT_ok _ _ _ _
      · split
        · exact ⟨by omega, by omega, by unfold partsOf; simp, ih _⟩
        · refine ⟨by omega, by omega, ?_, ih _, ih _⟩
          unfold partsOf
          rw [if_pos (by omega)]

theorem cmpT_end (raw : List Op2) (vars k : Int) (p : Nat) : (cmpT raw vars k p).2 ≤ p + 7 ∧ (10 ≤ p → (cmpT raw vars k p).2 ≤ p + 5) ∧ (13 ≤ p → (cmpT raw vars k p).2 ≤ p + 3) := by
  have h1 := numT_size raw vars 1 (p + 1)
  have h2 := numT_size raw vars 1 (numT raw vars 1 (p + 1)).2
  obtain ⟨h3, h4⟩ := numT_one raw vars (p + 1)
  obtain ⟨h5, h6⟩ := numT_one raw vars (numT raw vars 1 (p + 1)).2
  simp only [cmpT]
  omega

theorem truT_end (raw : List Op2) (vars : Int) : ∀ d p, (10 ≤ p → (truT raw vars d p).2 ≤ 17 ∨ (truT raw vars d p).2 ≤ p + 3) ∧ (p < 10 → (truT raw vars d p).2 ≤ 17 + 3 * d) := by
  intro d
  induction d with
  | zero =>
    intro p
    unfold truT
    have := cmpT_end raw vars (truKind (rawAt raw p) 0 p) p
    split
    · simp only; omega
    · omega
  | succ d ih =>
    intro p
    have hk := truKind_bd (rawAt raw p) (d + 1) p
    have hc := cmpT_end raw vars (truKind (rawAt raw p) (d + 1) p) p
    have h1 := ih (p + 1)
    have h2 := ih (truT raw vars d (p + 1)).2
    unfold truT
    split
    · simp only; omega
    · split
      · omega
      · split
        · simp only; omega
        · simp only; omega

theorem truT_small (raw : List Op2) (vars : Int) : (truT raw vars 3 0).1.size ≤ 26 := by
  have h1 := (truT_end raw vars 3 0).2 (by omega)
  have h2 := truT_size raw vars 3 0
  omega

end Go.Proofs.YtbmimdnpchldlaaGreatDoor
