/- The contract of scc.Lasso. -/
import Derived.Test.YtbndjailimhbdaaLasC
import Derived.Test.YtbndjailimhbdaaLasP
import Derived.Test.YtbndjailimhbdaaFairAny
import Derived.Deep.DeepCutAuto
namespace Go.Proofs.Ytbndjailimhbdaa
open Go.RowKit

/-- What Lasso answers. -/
def LassoR (n : Nat) (next : List (List Int)) (sets : List Int) (M init : Nat) (w : World) (e : Ending) (w' : World) : Prop :=
  ((∃ (st lp : List Nat) (a1 : Option Addr) (c1 : Nat) (a2 : Option Addr) (c2 : Nat), e = .returned (.tuple #[.agg #[.slice a1 st.length c1, .slice a2 lp.length c2], .int .i64 0]) ∧ Reads w' 1 (.slice a1 st.length c1) st.length (natV st) ∧ Reads w' 1 (.slice a2 lp.length c2) lp.length (natV lp) ∧
      LassoOk next (bitsN sets) M init st lp ∧ (∀ x ∈ st ++ lp, x < n) ∧ (st.length ≤ 20000 ∧ lp.length ≤ 200000) ∧ ∃ m, FairR next (bitsN sets) M n init m) ∨
    (e = .returned (.tuple #[.agg #[.slice none 0 0, .slice none 0 0], .int .i64 11]) ∧ ∀ j, ¬ FairR next (bitsN sets) M n init j)) ∧ Ext w w'

theorem natV_snoc (l : List Nat) (x : Nat) : natV (l ++ [x]) = natV l ++ [.int .i64 (x : Int)] := by simp [natV]

theorem row_rest {w : World} {b off n cap : Nat} {x : Value} {xs : List Value} (h : Row w 1 (some ⟨b, off, none⟩) (n + 1) cap (x :: xs)) : Row w 1 (if cap = 1 then some ⟨b, off, none⟩ else some ⟨b, off + 1, none⟩) n (cap - 1) xs := by
  have h1 := h.len
  have h2 := h.le
  have h3 := h.max
  simp only [List.length_cons] at h1
  obtain ⟨b', o', _, g2, g3⟩ := h.lie
  have e := g2 (by simp)
  simp only [Option.some.injEq, Addr.mk.injEq, and_true] at e
  obtain ⟨rfl, rfl⟩ := e
  by_cases hc : cap = 1
  · rw [if_pos hc]
    have hx : xs = [] := List.eq_nil_of_length_eq_zero (by omega)
    subst hx
    exact ⟨by omega, by omega, by omega, b, off, (by intro h; cases h), fun _ => rfl, by intro j u hu; simp at hu⟩
  · rw [if_neg hc]
    exact ⟨by omega, by omega, by omega, b, off + 1, (by intro h; cases h), fun _ => rfl, fun j u hu => by
      have := g3 (j + 1) u (by simpa using hu)
      rwa [show off + 1 + j = off + (j + 1) by omega]⟩

set_option maxRecDepth 100000 in
set_option maxHeartbeats 16000000 in
theorem lasso_any (sp nx st : Value) (init : Nat) (M : Nat) (S : List Sp2) (next : List (List Int)) (sets : List Int) (w : World) (hS : Spots w sp S) (hN : Lists w nx next) (hT : Ints w st sets) (hk : GOk S.length next sets init M) :
    Calls Try.prog 5 #[.agg #[sp, .int .i64 (init : Int), nx, st, .int .i64 (M : Int)]] w (LassoR S.length next sets M init w) := by
  have HFA := Lib.hid fun wx (hx : Ext w wx) => fairR_any sp nx st init M S next sets wx (hS.ext hx) (hN.ext hx) (hT.ext hx) hk
  have HPA := Lib.hid fun wx (hx : Ext w wx) => parts_any sp nx st init M S next sets wx (hS.ext hx) (hN.ext hx) (hT.ext hx) hk
  have HWY := Lib.hid fun wx (hx : Ext w wx) => way_any sp nx st init M S next sets wx (hS.ext hx) (hN.ext hx) (hT.ext hx) hk
  have HK := Lib.hid hk
  have h20 := hk.max
  have hm6 := hk.m6
  have hi1 := hk.i1
  have HTT := Lib.hid hT
  have HNN := Lib.hid hN
  obtain ⟨asp, csp, rfl, _⟩ := hS
  obtain ⟨ax, cx, rfl⟩ : ∃ a c, nx = .slice a next.length c := by
    obtain ⟨vs, he, a, c, rfl, _⟩ := hN
    exact ⟨a, c, rfl⟩
  obtain ⟨at', ct, rfl, _⟩ := hT
  have hnl := hk.nx
  have hsl := hk.st
  generalize S.length = n at *
  rw [hnl] at HFA HPA HWY HNN ⊢
  rw [hsl] at HFA HPA HWY HTT ⊢
  have HNL := Lib.hid hnl
  have HSL := Lib.hid hsl
  clear hk hN hnl hsl
  have hb := blk_new w (Obj.cells #[.slice asp n csp, .int .i64 (init : Int), .slice ax n cx, .slice at' n ct, .int .i64 (M : Int)] 28)
  have hx := ext_al (Ext.refl (w.alloc (Obj.cells #[.slice asp n csp, .int .i64 (init : Int), .slice ax n cx, .slice at' n ct, .int .i64 (M : Int)] 28))) (Obj.cells #[.slice none 0 0, .slice none 0 0] 31)
  have hb2 := blk_new (w.alloc (Obj.cells #[.slice asp n csp, .int .i64 (init : Int), .slice ax n cx, .slice at' n ct, .int .i64 (M : Int)] 28)) (Obj.cells #[.slice none 0 0, .slice none 0 0] 31)
  rw [World.size_alloc] at hb2
  have HE := Lib.hid ((ext_al (Ext.refl w) (Obj.cells #[.slice asp n csp, .int .i64 (init : Int), .slice ax n cx, .slice at' n ct, .int .i64 (M : Int)] 28)).trans hx)
  have HB := Lib.hid (blk_ext hb hx)
  have HR := Lib.hid hb2
  have d0 := blk_cell HB.out (i := 0) rfl
  have d1 := blk_cell HB.out (i := 1) rfl
  have d2 := blk_cell HB.out (i := 2) rfl
  have d3 := blk_cell HB.out (i := 3) rfl
  have d4 := blk_cell HB.out (i := 4) rfl
  clear hb hx hb2
  go_enter Try.func5, Try.ntmps5
  go_wp2_with fail
  generalize (w.alloc (Obj.cells #[.slice asp n csp, .int .i64 (init : Int), .slice ax n cx, .slice at' n ct, .int .i64 (M : Int)] 28)).alloc (Obj.cells #[.slice none 0 0, .slice none 0 0] 31) = W0 at *
  refine (HFA.out _ HE.out).mono ?_
  rintro e w1 ⟨⟨m, rfl, hF, -⟩ | ⟨rfl, hno⟩, hE1⟩
  · have HF := Lib.hid hF
    have HX1 := Lib.hid hE1
    have hx2 := ext_al (Ext.refl w1) (Obj.cells #[.int .i64 (m : Int)] 3)
    have hb2 := blk_new w1 (Obj.cells #[.int .i64 (m : Int)] 3)
    have HH2 := Lib.hid hb2
    have HX2 := Lib.hid (hE1.trans hx2)
    have hbg := blk_ext HB.out HX2.out
    have d0 := blk_cell hbg (i := 0) rfl
    have d1 := blk_cell hbg (i := 1) rfl
    have d2 := blk_cell hbg (i := 2) rfl
    have d3 := blk_cell hbg (i := 3) rfl
    have d4 := blk_cell hbg (i := 4) rfl
    clear hF hE1 hx2 hb2 hbg HFA
    go_wp2_with fail
    generalize w1.alloc (Obj.cells #[.int .i64 (m : Int)] 3) = W2 at *
    refine (HPA.out _ (HE.out.trans HX2.out)).mono ?_
    rintro e w3 ⟨D, part, rfl, hop, hpk, hE3⟩
    obtain ⟨pn, hpl, hpe, hpb⟩ := part_nat HK.out.ins HNL.out hpk
    rw [hpl] at hop
    have HPH := Lib.hid (part_home hpk hpe HF.out.2.1 HF.out.1)
    have HX3 := Lib.hid (HX2.out.trans hE3)
    have HH3 := Lib.hid (blk_ext HH2.out hE3)
    have HOP := Lib.hid hop
    have HDW := Lib.hid (show w.heap.size ≤ W2.heap.size from (HE.out.trans HX2.out).size)
    obtain ⟨H1, hH1⟩ : ∃ x, w1.heap.size = x := ⟨_, rfl⟩
    rw [hH1] at HH3 ⊢
    have hbg := blk_ext HB.out HX3.out
    have hx4 := ext_al (Ext.refl w3) (Obj.cells #[.slice (some ⟨D, 0, none⟩) n n] 23)
    have hb4 := blk_new w3 (Obj.cells #[.slice (some ⟨D, 0, none⟩) n n] 23)
    have HP4 := Lib.hid hb4
    have HX4 := Lib.hid (HX3.out.trans hx4)
    have HH4 := Lib.hid (blk_ext HH3.out hx4)
    have HOP4 := Lib.hid (own_ext hop hx4)
    have hbg4 := blk_ext hbg hx4
    have d0 := blk_cell hbg4 (i := 0) rfl
    have d1 := blk_cell hbg4 (i := 1) rfl
    have d2 := blk_cell hbg4 (i := 2) rfl
    have d3 := blk_cell hbg4 (i := 3) rfl
    have d4 := blk_cell hbg4 (i := 4) rfl
    clear hop hpk hE3 hpl hpe hpb hx4 hb4 hbg hbg4 hH1 HPA HH2 HH3 HOP
    go_upto_region 5 with fail
    obtain ⟨PB, hPB⟩ : ∃ x, w3.heap.size = x := ⟨_, rfl⟩
    rw [hPB] at HP4 ⊢
    clear hPB
    generalize w3.alloc (Obj.cells #[.slice (some ⟨D, 0, none⟩) n n] 23) = W4 at *
    have hx5 := ext_al (Ext.refl W4) (Obj.cells #[.slice asp n csp, .int .i64 (init : Int), .slice ax n cx, .slice at' n ct, .int .i64 (M : Int)] 45)
    have HG5 := Lib.hid (blk_new W4 (Obj.cells #[.slice asp n csp, .int .i64 (init : Int), .slice ax n cx, .slice at' n ct, .int .i64 (M : Int)] 45))
    have HX5 := Lib.hid (HX4.out.trans hx5)
    have HH5 := Lib.hid (blk_ext HH4.out hx5)
    have HP5 := Lib.hid (blk_ext HP4.out hx5)
    have HO5 := Lib.hid (own_ext HOP4.out hx5)
    have hmf : ∀ (fn : Fn) (first cap : Array Value) (w : World), (Instr.makeFunc fn first cap).run Try.prog w = .ok (.func fn first cap) w := fun _ _ _ _ => rfl
    have e1 := blk_cell (blk_ext HB.out HX5.out) (i := 1) rfl
    clear hx5 HX4 HH4 HP4 HOP4
    go_upto_region 7 with fail
    obtain ⟨GB, hGB⟩ : ∃ x, W4.heap.size = x := ⟨_, rfl⟩
    rw [hGB] at HG5 ⊢
    clear hGB
    generalize W4.alloc (Obj.cells #[.slice asp n csp, .int .i64 (init : Int), .slice ax n cx, .slice at' n ct, .int .i64 (M : Int)] 45) = W5 at *
    clear d0 d1 d2 d3 d4
    go_wp2_with fail
    go_loopg [41, 9] init (fun g x y wr => ∃ (k : Nat) (al : Option Addr) (cl : Nat), g + k = init ∧ x = .int .i64 (k : Int) ∧ y = .slice al k cl ∧ Ext W5 wr ∧ wr.ownsRow W5.heap.size 3 1 (.slice al k cl) k (natV (List.range k)))
    case atStart => exact ⟨0, none, 0, by omega, by go_num, rfl, Ext.refl _, World.ownsRow_nil _ _ _ _⟩
    case round =>
      obtain ⟨k, al, cl, hgk, rfl, rfl, hE, hO⟩ := hrel
      have HGK := Lib.hid hgk
      have HEE := Lib.hid hE
      have HOO := Lib.hid hO
      clear hgk e1
      by_cases hk : k < init
      · have hkI : (k : Int) < (init : Int) := by omega
        have hx6 := ext_al (Ext.refl wr) (Obj.cells #[.int .i64 (k : Int)] 3)
        have HX6 := Lib.hid hx6
        have HO6 := Lib.hid (own_ext hO hx6)
        have hsz := hE.size
        clear hE hO hx6
        go_wp2_with (at_builtin; go_must (refine wpl_append rfl rfl Try.slIntsW W5.heap.size rfl HO6.out rfl (Row.oneG _ _ _ _ rfl) (one_int _) (by unfold maxLen; omega) (by omega) (by simp; omega) ?_))
        intro v7 w7 hown7 hg7 hb7 _
        obtain ⟨a7, c7, rfl, _⟩ := id hown7.row
        have HE7 := Lib.hid (show Ext W5 w7 from Below.grown (HEE.out.trans HX6.out) hg7 (HEE.out.trans HX6.out).size (fun b hb => (HO6.out.lt b hb).1))
        have HO7 := Lib.hid (show w7.ownsRow W5.heap.size 3 1 (.slice a7 (k + 1) c7) (k + 1) (natV (List.range (k + 1))) from by
          rw [List.range_succ, natV_snoc]
          exact hown7)
        clear hown7 hg7 hb7
        go_wp2_with fail
        go_roundg (gk - 1)
        case measure => have := HGK.out; omega
        case rel => exact ⟨k + 1, a7, c7, by have := HGK.out; omega, by go_num, rfl, HE7.out, HO7.out⟩
      · obtain rfl : k = init := by have := HGK.out; omega
        have hkI : ¬ (k : Int) < (k : Int) := by omega
        have HXR := Lib.hid (HE.out.trans (HX5.out.trans hE))
        have hg := blk_ext HG5.out hE
        have g0 := blk_cell hg (i := 0) rfl
        have g1 := blk_cell hg (i := 1) rfl
        have g2 := blk_cell hg (i := 2) rfl
        have g3 := blk_cell hg (i := 3) rfl
        have g4 := blk_cell hg (i := 4) rfl
        have HFR := Lib.hid (show Reads wr 1 (.slice al k cl) (List.range k).length (natV (List.range k)) from by rw [List.length_range]; exact hO.reads)
        have hH := blk_ext HH5.out hE
        have HST := Lib.hid (way_stem HF.out.2.2)
        have hw := HWY.out wr HXR.out (.slice al k cl) (List.range k) HFR.out List.nodup_range (fun x hx => by have := List.mem_range.1 hx; omega) 11 12 #[] #[.pointer (some ⟨H1, 0, none⟩)] (fun _ => true) (fun i => i == m)
          (fun i wx _ _ => clo_true i wx) (fun i wx _ hx => clo_home i m H1 wx (blk_ext hH hx)) Try.enterTrue Try.enterHome HST.out
        have HWA := Lib.hid hw
        clear hE hO hg hH hw
        go_wp2_with fail
        refine HWA.out.mono ?_
        rintro e w8 ⟨st, b8, a8, c8, rfl, hwt8, hl8, ho8, hE8⟩
        obtain ⟨s0, hs0, hway, hb8, -⟩ := hwt8
        obtain rfl : b8 = m := by simpa using hb8
        have HWS := Lib.hid (show s0 < k from List.mem_range.1 hs0)
        have HWW := Lib.hid hway
        have HS8 := Lib.hid ho8
        have HX8 := Lib.hid (HEE.out.trans hE8)
        have hH8 := blk_ext HH5.out HX8.out
        have HH8 := Lib.hid hH8
        have HP8 := Lib.hid (blk_ext HP5.out HX8.out)
        have hg8 := blk_ext HB.out (HX5.out.trans HX8.out)
        have HB8 := Lib.hid hg8
        have HG8 := Lib.hid (blk_ext HG5.out HX8.out)
        have q0 := blk_cell hH8 (i := 0) rfl
        have z3 := blk_cell hg8 (i := 3) rfl
        have z4 := blk_cell hg8 (i := 4) rfl
        obtain ⟨_, _, e1, hrs⟩ := id HTT.out
        simp only [Value.slice.injEq] at e1
        obtain ⟨rfl, -, rfl⟩ := e1
        obtain ⟨sb, so, i1, i2⟩ := ints_cells hrs
        have hb8n := HF.out.1
        obtain rfl := i1 (by rw [HSL.out]; omega)
        have HSC := Lib.hid (show ∀ i, i < n → w.cell? ⟨sb, so + i, none⟩ = some (.int .i64 (bitsN sets i : Int)) from fun i hi => by
          rw [i2 i (by rw [HSL.out]; exact hi), bitsN_eq HK.out.bits (by rw [HSL.out]; exact hi)])
        have cs := HSC.out b8 hb8n
        have hXW := HE.out.trans (HX5.out.trans HX8.out)
        replace cs := (World.cell?_of_block (hXW.block sb (World.block_lt_of_cell? _ _ cs))).trans cs
        have hscap := hrs.le
        have hbI : (b8 : Int) < (n : Int) := by omega
        have hb0 : (0 : Int) ≤ (b8 : Int) := by omega
        have HXW := Lib.hid hXW
        have HBL := Lib.hid (bitsN_lt HK.out.bits)
        clear ho8 hE8 hway hH8 hg8 i2 hs0 hb8 HWA HST HFR g0 g1 g2 g3 g4 hrs hXW
        go_upto_region 15 with fail
        have hx9 := ext_al (Ext.refl w8) (Obj.cells #[.int .i64 (b8 : Int)] 3)
        have HL9 := Lib.hid (World.ownsRow_lit w8 #[.int .i64 (b8 : Int)] 1 (base := w8.heap.size) (e := 3) (size := 1) (Nat.le_refl _) (by unfold maxLen; omega) rfl)
        have HX89 := Lib.hid hx9
        have q0 := blk_cell (blk_ext HH8.out hx9) (i := 0) rfl
        have z3 := blk_cell (blk_ext HB8.out hx9) (i := 3) rfl
        have z4 := blk_cell (blk_ext HB8.out hx9) (i := 4) rfl
        replace cs := (World.cell?_of_block (hx9.block sb (World.block_lt_of_cell? _ _ cs))).trans cs
        clear hx9 HH8 HP8 HB8 HG8
        generalize w8.alloc (Obj.cells #[.int .i64 (b8 : Int)] 3) = W9 at *
        go_wp2_with fail
        clear q0 z3 z4 cs
        have HO9 := Lib.hid (orL_one (bitsN sets) b8)
        obtain ⟨wo, rfl⟩ : ∃ wo : World, wo = wr := ⟨_, rfl⟩
        go_loopg [64, 13, 14, 15] M (fun g x y z u wx => ∃ (b : Nat) (lp : List Nat) (at2 : Nat) (al2 : Option Addr) (cl2 : Nat), g + b = M ∧ x = .int .i64 (b : Int) ∧ y = .slice al2 (lp.length + 1) cl2 ∧ z = .int .i64 ((orL (bitsN sets) (lp ++ [at2]) : Nat) : Int) ∧ u = .int .i64 (at2 : Int) ∧ Ext w8 wx ∧
          wx.ownsRow w8.heap.size 3 1 (.slice al2 (lp.length + 1) cl2) (lp.length + 1) (natV (lp ++ [at2])) ∧ Way next b8 lp at2 ∧ (∀ x ∈ lp ++ [at2], Same next b8 x) ∧ (∀ t, t < b → (orL (bitsN sets) (lp ++ [at2])).testBit t = true) ∧ lp.length ≤ 20001 * b)
        case atStart => exact ⟨0, [], b8, _, _, by omega, by go_num, rfl, by rw [List.nil_append, HO9.out], rfl, HX89.out, by simpa [natV] using HL9.out, .nil _, by intro x hx; simp at hx; subst hx; exact Same.refl _ _, fun t ht => by omega, by simp⟩
        case round =>
          obtain ⟨b, lp, at2, al2, cl2, hgb, rfl, rfl, rfl, rfl, hE, hO, hway, hsame, hbits, hlen⟩ := hrel
          have HGB := Lib.hid hgb
          have HEB := Lib.hid hE
          have HOB := Lib.hid hO
          have HWB := Lib.hid hway
          have HSB := Lib.hid hsame
          have HBB := Lib.hid hbits
          by_cases hb : b < M
          · have hbI : (b : Int) < (M : Int) := by omega
            have hb0' : (0 : Int) ≤ (b : Int) := by omega
            have hb6 : b < 6 := by omega
            have hm64 : orL (bitsN sets) (lp ++ [at2]) < 64 := by
              have h1 := orL_lt HBL.out (lp ++ [at2])
              have h2 := Nat.pow_le_pow_right (n := 2) (by omega) hm6
              omega
            have hq := bit_shrG (orL (bitsN sets) (lp ++ [at2])) b hm64
            obtain ⟨tb, htb⟩ : ∃ tb, (orL (bitsN sets) (lp ++ [at2])).testBit b = tb := ⟨_, rfl⟩
            rw [htb] at hq
            have HTB := Lib.hid htb
            have hxb := ext_al (Ext.refl wr) (Obj.cells #[.int .i64 (b : Int)] 3)
            have hbb := blk_new wr (Obj.cells #[.int .i64 (b : Int)] 3)
            have v0 := blk_cell hbb (i := 0) rfl
            have HBX := Lib.hid hxb
            have HBK := Lib.hid hbb
            have hEG := HX8.out.trans (hE.trans hxb)
            have hgd := blk_ext HG5.out hEG
            have g0 := blk_cell hgd (i := 0) rfl
            have g1 := blk_cell hgd (i := 1) rfl
            have g2 := blk_cell hgd (i := 2) rfl
            have g3 := blk_cell hgd (i := 3) rfl
            have g4 := blk_cell hgd (i := 4) rfl
            obtain ⟨met, hmet⟩ : ∃ q, orL (bitsN sets) (lp ++ [at2]) = q := ⟨_, rfl⟩
            rw [hmet] at hq hm64 ⊢
            have HMET := Lib.hid hmet
            have hm0 : (0 : Int) ≤ (met : Int) := by omega
            clear hgb hE hO hway hsame hbits htb hxb hbb hEG hgd hmet
            cases tb
            · have hxa := ext_al (Ext.refl (wr.alloc (Obj.cells #[.int .i64 (b : Int)] 3))) (Obj.cells #[.int .i64 (at2 : Int)] 3)
              have hat := blk_new (wr.alloc (Obj.cells #[.int .i64 (b : Int)] 3)) (Obj.cells #[.int .i64 (at2 : Int)] 3)
              rw [World.size_alloc] at hat
              have hE5 : Ext W5 ((wr.alloc (Obj.cells #[.int .i64 (b : Int)] 3)).alloc (Obj.cells #[.int .i64 (at2 : Int)] 3)) := HX8.out.trans (HEB.out.trans (HBX.out.trans hxa))
              have HW5 := Lib.hid (HE.out.trans (HX5.out.trans hE5))
              have HIC := Lib.hid fun (i : Nat) wx (hi : i < n) (hx : Ext ((wr.alloc (Obj.cells #[.int .i64 (b : Int)] 3)).alloc (Obj.cells #[.int .i64 (at2 : Int)] 3)) wx) => clo_in i b8 H1 PB D n pn wx (blk_ext HH5.out (hE5.trans hx)) (blk_ext HP5.out (hE5.trans hx)) (by
                have hc := own_cellAt HO5.out (i := i) (by simpa [lst] using hi)
                have e : ((lst n pn).map (Value.int .i64))[i]'(by simpa [lst] using hi) = .int .i64 (pn i : Int) := by simp [lst]
                rw [e] at hc
                exact (World.cell?_of_block ((hE5.trans hx).block D (World.block_lt_of_cell? _ _ hc))).trans hc) hi
              have HBC := Lib.hid fun (i : Nat) wx (hi : i < n) (hx : Ext ((wr.alloc (Obj.cells #[.int .i64 (b : Int)] 3)).alloc (Obj.cells #[.int .i64 (at2 : Int)] 3)) wx) => clo_bit i b w.heap.size wr.heap.size n so _ _ _ _ sets sb ct wx (blk_ext HB.out (HX5.out.trans (hE5.trans hx))) (blk_ext HBK.out (hxa.trans hx)) ((World.cell?_of_block ((HW5.out.trans hx).block sb (World.block_lt_of_cell? _ _ (HSC.out i hi)))).trans (HSC.out i hi)) (by
                have h1 := HBL.out i
                have h2 := Nat.pow_le_pow_right (n := 2) (by omega) hm6
                omega) hi hb6
              have HSG := Lib.hid (show ∃ l b', WayTo next [at2] (fun x => pn x == b8) (fun i => (bitsN sets i).testBit b) l b' from by
                obtain ⟨i, hi, hs, hbit⟩ := HF.out.2.1.sets b hb
                exact way_seg (n := n) (fun x hx h => (HPH.out x hx).2 h) (fun x h => reach_in HK.out.ins HNL.out h.1 HF.out.1) (HSB.out at2 (by simp)) hs hbit)
              have HFA := Lib.hid (show Reads ((wr.alloc (Obj.cells #[.int .i64 (b : Int)] 3)).alloc (Obj.cells #[.int .i64 (at2 : Int)] 3)) 1 (.slice (some ⟨wr.heap.size + 1, 0, none⟩) 1 1) [at2].length (natV [at2]) from ⟨_, _, rfl, Row.oneG _ _ _ _ (by simp)⟩)
              have hw := HWY.out _ HW5.out (.slice (some ⟨wr.heap.size + 1, 0, none⟩) 1 1) [at2] HFA.out (by simp) (fun x hx => by simp at hx; subst hx; exact reach_in HK.out.ins HNL.out (HSB.out x (by simp)).1 HF.out.1) 13 14 #[.pointer (some ⟨PB, 0, none⟩), .pointer (some ⟨H1, 0, none⟩)] #[.pointer (some ⟨w.heap.size, 0, none⟩), .pointer (some ⟨wr.heap.size, 0, none⟩)]
                (fun x => pn x == b8) (fun i => (bitsN sets i).testBit b) HIC.out HBC.out Try.enterIn Try.enterBit HSG.out
              have HWA := Lib.hid hw
              have HXQ := Lib.hid (HBX.out.trans hxa)
              clear hxa hat hE5 hw HIC HBC HSG HFA
              go_wp2_with fail
              refine HWA.out.mono ?_
              rintro e wS ⟨sg, b', aS, cS, rfl, hwt, hsl, hoS, hES⟩
              obtain ⟨s1, hs1, hwayS, hbS, hinS⟩ := hwt
              obtain rfl : s1 = at2 := by simpa using hs1
              obtain ⟨rS, hrS⟩ := hwayS.head
              have hrl : rS.length = sg.length := by
                have h := congrArg List.length hrS
                simp at h
                omega
              obtain ⟨_, _, eS, hrowS⟩ := id hoS.row
              simp only [Value.slice.injEq] at eS
              obtain ⟨rfl, -, rfl⟩ := eS
              rw [hrS] at hrowS
              have hrowS' : Row wS 1 aS (sg.length + 1) cS (.int .i64 (s1 : Int) :: natV rS) := hrowS
              obtain ⟨bq, oq, _, k2, _⟩ := hrowS'.lie
              obtain rfl := k2 (by simp)
              have HRR := Lib.hid (row_rest hrowS')
              have hcS := hrowS'.le
              have HSS := Lib.hid (show ∀ x ∈ sg ++ [b'], Same next b8 x ∧ x < n from fun x hx => by
                have hsat := HSB.out s1 (by simp)
                have hre : Reach next s1 x := by
                  rcases List.mem_append.1 hx with h | h
                  · exact (hwayS.all x h).1
                  · simp at h; subst h; exact hwayS.reach
                have hxn : x < n := reach_in HK.out.ins HNL.out hre (reach_in HK.out.ins HNL.out hsat.1 HF.out.1)
                refine ⟨?_, hxn⟩
                rw [hrS] at hx hinS
                rcases List.mem_cons.1 hx with rfl | hx
                · exact hsat
                · exact (HPH.out x hxn).1 (hinS x hx))
              have HWS2 := Lib.hid hwayS
              have HRS := Lib.hid hrS
              have HBS := Lib.hid hbS
              have HES := Lib.hid (HEB.out.trans (HXQ.out.trans hES))
              have HLS := Lib.hid hrl
              have HOS := Lib.hid (own_ext HOB.out (HXQ.out.trans hES))
              clear hs1 hwayS hbS hinS hrS hrl hoS hrowS hrowS' hES HWA k2 g0 g1 g2 g3 g4 hq v0
              go_upto_region 22 with fail
              go_cut [79, 80, 81] (fun s79 s80 s81 wx => wx = wS ∧ s80 = .int .i64 (sg.length : Int) ∧ s81 = .int .i64 0 ∧ ∃ (ar : Option Addr) (cr : Nat), s79 = .slice ar sg.length cr ∧ Row wS 1 ar sg.length cr (natV rS))
              case first =>
                by_cases hc1 : cS = 1
                · obtain rfl : sg = [] := List.eq_nil_of_length_eq_zero (by omega)
                  subst hc1
                  have HRR1 := HRR.out
                  rw [if_pos rfl] at HRR1
                  go_wp2_with fail
                  go_meet
                  exact ⟨rfl, rfl, rfl, _, _, rfl, HRR1⟩
                · have hc2 : ¬ cS - 1 = 0 := by omega
                  have HRR1 := HRR.out
                  rw [if_neg hc1] at HRR1
                  go_wp2_with fail
                  go_meet
                  exact ⟨rfl, rfl, rfl, _, _, rfl, HRR1⟩
              case rest =>
              obtain ⟨rfl, rfl, rfl, ar, cr, rfl, hrow⟩ := hcut
              have HRO := Lib.hid hrow
              clear hrow
              go_wp2_with fail
              obtain ⟨wo2, rfl⟩ : ∃ wo : World, wo = wr := ⟨_, rfl⟩
              obtain ⟨G0, rfl⟩ : ∃ G0 : Nat, G0 = gk := ⟨_, rfl⟩
              have hz3S := blk_cell (blk_ext HB.out (HX5.out.trans (HX8.out.trans HES.out))) (i := 3) rfl
              have HXS := Lib.hid (HE.out.trans (HX5.out.trans (HX8.out.trans HES.out)))
              go_loopg [81, 14] sg.length (fun g x z wx => ∃ c : Nat, g + c = sg.length ∧ x = .int .i64 (c : Int) ∧ z = .int .i64 ((orL (bitsN sets) ((lp ++ [s1]) ++ rS.take c) : Nat) : Int) ∧ wx = wc)
              case atStart => exact ⟨0, by omega, by go_num, by rw [List.take_zero, List.append_nil, HMET.out], rfl⟩
              case round =>
                obtain ⟨c, hgc, rfl, rfl, rfl⟩ := hrel
                have HGC := Lib.hid hgc
                clear hgc
                by_cases hc : c < sg.length
                · have hcr : c < rS.length := by have := HLS.out; omega
                  have h1 := HRO.out
                  obtain ⟨bT, oT, i1, i2⟩ := row_cells (f := fun x : Nat => Value.int .i64 (x : Int)) h1
                  obtain rfl := i1 (by omega)
                  have ct' := i2 c hcr
                  have htc := h1.le
                  have hxs := (HSS.out rS[c] (by rw [HRS.out]; simp)).2
                  have HTK := Lib.hid (show (lp ++ [s1]) ++ rS.take (c + 1) = ((lp ++ [s1]) ++ rS.take c) ++ [rS[c]] from by rw [List.take_succ_eq_append_getElem hcr]; simp)
                  generalize rS[c] = x at *
                  have cs := HSC.out x hxs
                  replace cs := (World.cell?_of_block (HXS.out.block sb (World.block_lt_of_cell? _ _ cs))).trans cs
                  have h64 : bitsN sets x < 64 := by
                    have h1 := HBL.out x
                    have h2 := Nat.pow_le_pow_right (n := 2) (by omega) hm6
                    omega
                  have ho64 : orL (bitsN sets) ((lp ++ [s1]) ++ rS.take c) < 64 := by
                    have h1 := orL_lt HBL.out ((lp ++ [s1]) ++ rS.take c)
                    have h2 := Nat.pow_le_pow_right (n := 2) (by omega) hm6
                    omega
                  obtain ⟨mc, hmc⟩ : ∃ q, orL (bitsN sets) ((lp ++ [s1]) ++ rS.take c) = q := ⟨_, rfl⟩
                  rw [hmc] at ho64 ⊢
                  have HOR := Lib.hid (show orL (bitsN sets) ((lp ++ [s1]) ++ rS.take (c + 1)) = mc ||| bitsN sets x from by rw [HTK.out, orL_snoc, hmc])
                  generalize bitsN sets x = vx at *
                  have hor := i64_or_nat mc vx (by omega) (by omega)
                  have hcI : (c : Int) < (sg.length : Int) := by omega
                  have hc0 : (0 : Int) ≤ (c : Int) := by omega
                  have hxI : (x : Int) < (n : Int) := by omega
                  have hx0 : (0 : Int) ≤ (x : Int) := by omega
                  clear h1 i1 i2 hcr hmc
                  go_wp2_with fail
                  go_roundg (gk - 1)
                  case measure => have := HGC.out; omega
                  case rel => exact ⟨c + 1, by have := HGC.out; omega, by go_num, by rw [HOR.out], rfl⟩
                · obtain rfl : c = sg.length := by have := HGC.out; omega
                  have hcI : ¬ (sg.length : Int) < (sg.length : Int) := by omega
                  have HNM := Lib.hid (show orL (bitsN sets) ((lp ++ [s1]) ++ rS.take sg.length) = orL (bitsN sets) ((lp ++ sg) ++ [b']) from by
                    rw [← HLS.out, List.take_length, List.append_assoc lp sg [b'], HRS.out]
                    simp)
                  rw [HNM.out]
                  obtain ⟨mz, hmz⟩ : ∃ q, orL (bitsN sets) ((lp ++ sg) ++ [b']) = q := ⟨_, rfl⟩
                  rw [hmz]
                  have HMZ := Lib.hid hmz
                  clear hmz
                  have HNV := Lib.hid (show natV (lp ++ [s1]) ++ natV rS = natV ((lp ++ sg) ++ [b']) from by
                    rw [List.append_assoc lp sg [b'], HRS.out]
                    simp [natV])
                  have hszS := (HX8.out.trans HES.out).size
                  go_upto_region 27 with fail
                  obtain ⟨Lq, hLq⟩ : ∃ q, lp.length + sg.length = q := ⟨_, rfl⟩
                  have HLQ := Lib.hid hLq
                  have hLb : Lq + 1 ≤ 200000 := by omega
                  have hV : ∀ (v : Value) (wx : World) (k : Nat), wx.ownsRow w8.heap.size 3 1 v k (natV (lp ++ [s1]) ++ natV rS) → k = Lq + 1 → wx.ownsRow w8.heap.size 3 1 v (Lq + 1) (natV ((lp ++ sg) ++ [b'])) := by
                    intro v wx k h hk
                    rw [HNV.out] at h
                    rw [← hk]
                    exact h
                  have HV := Lib.hid hV
                  clear hLq hV
                  go_cut [13] (fun s13 wx => ∃ (al3 : Option Addr) (cl3 : Nat), s13 = .slice al3 (Lq + 1) cl3 ∧ wx.ownsRow w8.heap.size 3 1 (.slice al3 (Lq + 1) cl3) (Lq + 1) (natV ((lp ++ sg) ++ [b'])) ∧ Ext w8 wx)
                  case first =>
                    by_cases hc1 : cS = 1
                    · obtain rfl : sg = [] := List.eq_nil_of_length_eq_zero (by omega)
                      subst hc1
                      have HRR1 := HRR.out
                      rw [if_pos rfl] at HRR1
                      have HR2 := Lib.hid HRR1
                      clear HRR1
                      go_wp2_with (at_builtin; go_must (refine wpl_append rfl rfl Try.slIntsW w8.heap.size rfl HOS.out rfl HR2.out (natV_one rS) (by unfold maxLen; simp; omega) (by simp; omega) HES.out.size ?_))
                      intro v7 w7 hown7 hg7 hb7 _
                      have HO7 := Lib.hid (HV.out _ _ _ hown7 (by have := HLQ.out; simp at this ⊢; omega))
                      have HE7 := Lib.hid (show Ext w8 w7 from Below.grown HES.out hg7 HES.out.size (fun b hb => (HOS.out.lt b hb).1))
                      obtain ⟨a7, c7, rfl, _⟩ := id HO7.out.row
                      clear hown7 hg7 hb7
                      go_wp2_with fail
                      go_meet
                      exact ⟨_, _, rfl, HO7.out, HE7.out⟩
                    · have hc2 : ¬ cS - 1 = 0 := by omega
                      have HRR1 := HRR.out
                      rw [if_neg hc1] at HRR1
                      have HR2 := Lib.hid HRR1
                      clear HRR1
                      go_wp2_with (at_builtin; go_must (refine wpl_append rfl rfl Try.slIntsW w8.heap.size rfl HOS.out rfl HR2.out (natV_one rS) (by unfold maxLen; omega) (by omega) HES.out.size ?_))
                      intro v7 w7 hown7 hg7 hb7 _
                      have HO7 := Lib.hid (HV.out _ _ _ hown7 (by have := HLQ.out; omega))
                      have HE7 := Lib.hid (show Ext w8 w7 from Below.grown HES.out hg7 HES.out.size (fun b hb => (HOS.out.lt b hb).1))
                      obtain ⟨a7, c7, rfl, _⟩ := id HO7.out.row
                      clear hown7 hg7 hb7
                      go_wp2_with fail
                      go_meet
                      exact ⟨_, _, rfl, HO7.out, HE7.out⟩
                  case rest =>
                  obtain ⟨al3, cl3, rfl, hO3, hE3⟩ := hcut
                  have HO3 := Lib.hid hO3
                  have HE3 := Lib.hid hE3
                  obtain ⟨_, _, e3, hr3⟩ := id hO3.row
                  simp only [Value.slice.injEq] at e3
                  obtain ⟨rfl, -, rfl⟩ := e3
                  obtain ⟨bT, oT, i1, i2⟩ := row_cells (f := fun x : Nat => Value.int .i64 (x : Int)) hr3
                  have hlen3 : ((lp ++ sg) ++ [b']).length = Lq + 1 := by have := HLQ.out; simp; omega
                  obtain rfl := i1 (by omega)
                  have ct' := i2 Lq (by omega)
                  have htc := hr3.le
                  have e5 : ((lp ++ sg) ++ [b'])[Lq]'(by omega) = b' := by
                    have := HLQ.out
                    rw [List.getElem_append_right (by simp; omega)]
                    simp
                  rw [e5] at ct'
                  have HN5 := Lib.hid (show ∀ t, t < b + 1 → (orL (bitsN sets) ((lp ++ sg) ++ [b'])).testBit t = true from fun t ht => by
                    by_cases e : t = b
                    · subst e
                      exact (orL_bit _ _ _).2 ⟨b', by simp, HBS.out⟩
                    · obtain ⟨i, hi, hb⟩ := (orL_bit _ _ _).1 (HBB.out t (by omega))
                      refine (orL_bit _ _ _).2 ⟨i, ?_, hb⟩
                      rw [List.append_assoc, HRS.out]
                      rcases List.mem_append.1 hi with h | h
                      · exact List.mem_append_left _ h
                      · simp at h; subst h; simp)
                  have HS5 := Lib.hid (show ∀ x ∈ (lp ++ sg) ++ [b'], Same next b8 x from fun x hx => by
                    rw [List.append_assoc] at hx
                    rcases List.mem_append.1 hx with h | h
                    · exact HSB.out x (List.mem_append_left _ h)
                    · exact (HSS.out x h).1)
                  have hLb2 : lp.length + sg.length ≤ 20001 * (b + 1) := by omega
                  clear hO3 hE3 hr3 i1 i2 e5 hlen3
                  go_wp2_with fail
                  go_roundg (G0 - 1)
                  case measure => have := HGB.out; omega
                  case rel => exact ⟨b + 1, lp ++ sg, b', _, _, by have := HGB.out; omega, by go_num, by rw [List.length_append, HLQ.out], by rw [HMZ.out], rfl, HE3.out, by rw [List.length_append, HLQ.out]; exact HO3.out, HWB.out.app HWS2.out, HS5.out, HN5.out, by rw [List.length_append]; exact hLb2⟩
            · have HB1 := Lib.hid (show ∀ t, t < b + 1 → (orL (bitsN sets) (lp ++ [at2])).testBit t = true from fun t ht => by
                by_cases e : t = b
                · subst e; exact HTB.out
                · exact HBB.out t (by omega))
              go_wp2_with fail
              go_roundg (gk - 1)
              case measure => have := HGB.out; omega
              case rel => exact ⟨b + 1, lp, at2, al2, cl2, by have := HGB.out; omega, by go_num, rfl, by rw [HMET.out], rfl, HEB.out.trans HBX.out, own_ext HOB.out HBX.out, HWB.out, HSB.out, HB1.out, by omega⟩
          · obtain rfl : b = M := by have := HGB.out; omega
            have hbI : ¬ (b : Int) < (b : Int) := by omega
            have HXE := Lib.hid (HE.out.trans (HX5.out.trans (HX8.out.trans hE)))
            have HX5E := Lib.hid (HX8.out.trans hE)
            have z2 := blk_cell (blk_ext HB.out (HX5.out.trans HX5E.out)) (i := 2) rfl
            obtain ⟨-, hcl, hclm, bL, oL, l1, l2⟩ := HNN.out.cells
            have hatn : at2 < n := reach_in HK.out.ins HNL.out (hsame at2 (by simp)).1 HF.out.1
            obtain rfl := l1 (by omega)
            have hqN : at2 < next.length := by have := HNL.out; omega
            obtain ⟨aL, cL, cz, hil2⟩ := l2 at2 hqN
            replace cz := (World.cell?_of_block (HXE.out.block bL (World.block_lt_of_cell? _ _ cz))).trans cz
            have hlq := List.getElem?_eq_getElem hqN
            obtain ⟨l, hl⟩ : ∃ l, next[at2]'hqN = l := ⟨_, rfl⟩
            rw [hl] at cz hil2 hlq
            have HIL := Lib.hid (hil2.ext HXE.out)
            have HLQ := Lib.hid hlq
            have HLN := Lib.hid (show ∀ x ∈ l, 0 ≤ x ∧ x < (n : Int) from fun x hx => by have := HK.out.ins l (List.mem_of_getElem? hlq) x hx; exact this)
            have hqI : (at2 : Int) < (n : Int) := by omega
            have hq0 : (0 : Int) ≤ (at2 : Int) := by omega
            have hll : l.length ≤ 9223372036854775807 := by
              obtain ⟨_, _, e, hr⟩ := hil2
              simp only [Value.slice.injEq] at e
              obtain ⟨-, -, rfl⟩ := e
              have h1 := hr.le
              have h2 := hr.max
              unfold maxLen at h2
              omega
            unfold maxLen at hclm
            obtain ⟨wz, rfl⟩ : ∃ wo : World, wo = wr := ⟨_, rfl⟩
            clear hgb hE hO hway hsame hbits l2 hlq hl hil2
            go_wp2_with fail
            clear z2 cz
            go_loopg [110, 13] l.length (fun g x y wx => ∃ c : Nat, g + c = l.length ∧ x = .int .i64 (c : Int) ∧ y = .slice al2 (lp.length + 1) cl2 ∧ Ext wz wx ∧ ∀ (i : Nat) (k : Nat), i < c → l[i]? = some (k : Int) → pn k ≠ b8)
            case atStart => exact ⟨0, by omega, by go_num, rfl, Ext.refl _, fun i k h => by omega⟩
            case round =>
              obtain ⟨c, hgc, rfl, rfl, hE, hno⟩ := hrel
              have HGC := Lib.hid hgc
              have HEI := Lib.hid hE
              have HNI := Lib.hid hno
              clear hgc hE hno
              by_cases hc : c < l.length
              · have hil3 := HIL.out.ext HEI.out
                obtain ⟨_, _, e1, hr⟩ := id hil3
                simp only [Value.slice.injEq] at e1
                obtain ⟨rfl, -, rfl⟩ := e1
                obtain ⟨bI, oI, i1, i2⟩ := ints_cells hr
                obtain rfl := i1 (by omega)
                have ci := i2 c hc
                have hlc := List.getElem?_eq_getElem hc
                have hkb := HLN.out l[c] (by simp)
                obtain ⟨k2, hk2⟩ : ∃ k : Nat, l[c] = (k : Int) := ⟨l[c].toNat, by omega⟩
                rw [hk2] at ci hlc hkb
                have hkn : k2 < n := by omega
                have HLC := Lib.hid hlc
                have hcI : (c : Int) < (l.length : Int) := by omega
                have hc0 : (0 : Int) ≤ (c : Int) := by omega
                have hE5 : Ext W5 wr := HX5E.out.trans HEI.out
                have HE5 := Lib.hid hE5
                have HIC := Lib.hid fun (i : Nat) wx (hi : i < n) (hx : Ext wr wx) => clo_in i b8 H1 PB D n pn wx (blk_ext HH5.out (hE5.trans hx)) (blk_ext HP5.out (hE5.trans hx)) (by
                  have hc := own_cellAt HO5.out (i := i) (by simpa [lst] using hi)
                  have e : ((lst n pn).map (Value.int .i64))[i]'(by simpa [lst] using hi) = .int .i64 (pn i : Int) := by simp [lst]
                  rw [e] at hc
                  exact (World.cell?_of_block ((hE5.trans hx).block D (World.block_lt_of_cell? _ _ hc))).trans hc) hi
                clear hil3 hr i1 i2 hlc hkb hk2 hE5
                go_wp2_with fail
                refine (HIC.out k2 wr hkn (Ext.refl _)).mono ?_
                rintro e w5 ⟨rfl, hE5⟩
                have HEW := Lib.hid hE5
                have HE5W := Lib.hid (HEI.out.trans hE5)
                obtain ⟨ib, hib⟩ : ∃ q, (pn k2 == b8) = q := ⟨_, rfl⟩
                rw [hib]
                have HIB := Lib.hid hib
                clear hE5 hib
                cases ib
                · have HN6 := Lib.hid (show ∀ (i : Nat) (k : Nat), i < c + 1 → l[i]? = some (k : Int) → pn k ≠ b8 from fun i k hi hk => by
                    by_cases e : i = c
                    · subst e
                      have h1 := Option.some.inj (hk.symm.trans HLC.out)
                      obtain rfl : k = k2 := by omega
                      have h2 := HIB.out
                      simpa using h2
                    · exact HNI.out i k (by omega) hk)
                  go_wp2_with fail
                  go_roundg (gk - 1)
                  case measure => have := HGC.out; omega
                  case rel => exact ⟨c + 1, by have := HGC.out; omega, by go_num, rfl, HE5W.out, HN6.out⟩
                · have hxa := ext_al (Ext.refl w5) (Obj.cells #[.int .i64 (k2 : Int)] 3)
                  have HXA := Lib.hid hxa
                  have hE6 : Ext W5 (w5.alloc (Obj.cells #[.int .i64 (k2 : Int)] 3)) := HE5.out.trans (HEW.out.trans hxa)
                  have HW6 := Lib.hid (HE.out.trans (HX5.out.trans hE6))
                  have hgd := blk_ext HG5.out (HE5.out.trans HEW.out)
                  have g0 := blk_cell hgd (i := 0) rfl
                  have g1 := blk_cell hgd (i := 1) rfl
                  have g2 := blk_cell hgd (i := 2) rfl
                  have g3 := blk_cell hgd (i := 3) rfl
                  have g4 := blk_cell hgd (i := 4) rfl
                  have HFA := Lib.hid (show Reads (w5.alloc (Obj.cells #[.int .i64 (k2 : Int)] 3)) 1 (.slice (some ⟨w5.heap.size, 0, none⟩) 1 1) [k2].length (natV [k2]) from ⟨_, _, rfl, Row.oneG _ _ _ _ (by simp)⟩)
                  have hsk : Same next b8 k2 := (HPH.out k2 hkn).1 HIB.out
                  have HSG := Lib.hid (show ∃ l b', WayTo next [k2] (fun x => pn x == b8) (fun i => i == b8) l b' from way_seg (n := n) (fun x hx h => (HPH.out x hx).2 h) (fun x h => reach_in HK.out.ins HNL.out h.1 HF.out.1) hsk (Same.refl _ _) (by simp))
                  have hw := HWY.out _ HW6.out (.slice (some ⟨w5.heap.size, 0, none⟩) 1 1) [k2] HFA.out (by simp) (fun x hx => by simp at hx; subst hx; exact hkn) 13 15 #[.pointer (some ⟨PB, 0, none⟩), .pointer (some ⟨H1, 0, none⟩)] #[.pointer (some ⟨H1, 0, none⟩)]
                    (fun x => pn x == b8) (fun i => i == b8) (fun i wx hi hx => HIC.out i wx hi (HEW.out.trans (hxa.trans hx))) (fun i wx _ hx => clo_last i b8 H1 wx (blk_ext HH5.out (hE6.trans hx))) Try.enterIn Try.enterLast HSG.out
                  have HWA := Lib.hid hw
                  clear hxa hE6 hgd hsk hw HSG HFA
                  go_wp2_with fail
                  refine HWA.out.mono ?_
                  rintro e wS ⟨sg, b', aS, cS, rfl, hwt, hsl, hoS, hES⟩
                  obtain ⟨s1, hs1, hwayS, hbS, hinS⟩ := hwt
                  obtain rfl : s1 = k2 := by simpa using hs1
                  obtain rfl : b' = b8 := by simpa using hbS
                  have HWS2 := Lib.hid hwayS
                  have HTS := Lib.hid (HE5W.out.trans (HXA.out.trans hES))
                  have HOS := Lib.hid (own_ext HOB.out HTS.out)
                  obtain ⟨_, _, eS, hrowS⟩ := id hoS.row
                  simp only [Value.slice.injEq] at eS
                  obtain ⟨rfl, -, rfl⟩ := eS
                  have hcS := hrowS.le
                  have hrt := hrowS.take sg.length (by omega)
                  rw [Nat.mul_one, show (natV (sg ++ [b'])).take sg.length = natV sg by simp [natV]] at hrt
                  have HRT := Lib.hid hrt
                  have HES := Lib.hid (HEB.out.trans HTS.out)
                  have hlb : lp.length + 1 + sg.length ≤ 200000 := by omega
                  clear hs1 hwayS hbS hinS hoS hES hrowS hrt HWA g0 g1 g2 g3 g4
                  go_wp2_with (at_builtin; go_must (refine wpl_append rfl rfl Try.slIntsW w8.heap.size rfl HOS.out rfl HRT.out (natV_one sg) (by unfold maxLen; omega) (by omega) HES.out.size ?_))
                  intro v7 w7 hown7 hg7 hb7 _
                  have HE7 := Lib.hid (show Ext w8 w7 from Below.grown HES.out hg7 HES.out.size (fun b hb => (HOS.out.lt b hb).1))
                  have hHB : w8.heap.size ≤ w7.heap.size := HE7.out.size
                  have HO7 := Lib.hid (show w7.ownsRow w8.heap.size 3 1 v7 (lp.length + 1 + sg.length) (natV ((lp ++ [at2]) ++ sg)) from by
                    rw [show natV ((lp ++ [at2]) ++ sg) = natV (lp ++ [at2]) ++ natV sg by simp [natV]]
                    exact hown7)
                  obtain ⟨a7, c7, rfl, _⟩ := id hown7.row
                  have hbr := blk_ext HR.out (HX5.out.trans (HX8.out.trans HE7.out))
                  have r0 := blk_cell hbr (i := 0) rfl
                  have r1 := blk_cell hbr (i := 1) rfl
                  have f0 := blk_free hbr 0
                  have f1 := blk_free hbr 1
                  have hs8 := own_ext HS8.out HE7.out
                  have HS9 := Lib.hid hs8
                  obtain ⟨_, _, e8, hr8⟩ := id hs8.row
                  simp only [Value.slice.injEq] at e8
                  obtain ⟨rfl, -, rfl⟩ := e8
                  have hc8 := hr8.le
                  have hc8m := hr8.max
                  unfold maxLen at hc8m
                  have HRL := Lib.hid (blk_lt HR.out)
                  have HSZ := Lib.hid (HX5.out.trans HEE.out).size
                  have HXE7 := Lib.hid (HE.out.trans (HX5.out.trans (HX8.out.trans HE7.out)))
                  clear hown7 hg7 hb7 hs8 hr8 hbr
                  go_wp2_with fail
                  have hed : Edge next at2 s1 := ⟨l, HLQ.out, List.mem_of_getElem? HLC.out⟩
                  have hloop : Way next b' ((lp ++ [at2]) ++ sg) b' := (HWB.out.app (Way.one hed)).app HWS2.out
                  have hlen : ((lp ++ [at2]) ++ sg).length = lp.length + 1 + sg.length := by simp only [List.length_append, List.length_cons, List.length_nil]
                  have hok : LassoOk next (bitsN sets) b k st ((lp ++ [at2]) ++ sg) := ⟨s0, b', HWS.out, HWW.out, by omega, hloop, fun t ht => by
                    obtain ⟨i, hi, hb⟩ := (orL_bit _ _ _).1 (HBB.out t ht)
                    exact ⟨i, List.mem_append_left _ hi, hb⟩⟩
                  have hsn : s0 < n := by have := HWS.out; omega
                  have hlt : ∀ x ∈ st ++ ((lp ++ [at2]) ++ sg), x < n := fun x hx => by
                    rcases List.mem_append.1 hx with h | h
                    · exact reach_in HK.out.ins HNL.out (HWW.out.all x h).1 hsn
                    · exact reach_in HK.out.ins HNL.out (hloop.all x h).1 HF.out.1
                  have hsz8 := (HX5.out.trans HX8.out).size
                  have hrl := HRL.out
                  have hsz := HSZ.out
                  have o1 := own_setCell (own_setCell HS9.out (p := ⟨w.heap.size + 1, 0, none⟩) (.slice a8 st.length c8) (fun e => by have h : wo.heap.size ≤ w.heap.size + 1 := (HS9.out.lt _ e).1; omega)) (p := ⟨w.heap.size + 1, 1, none⟩) (.slice a7 (lp.length + 1 + sg.length) c7) (fun e => by have h : wo.heap.size ≤ w.heap.size + 1 := (HS9.out.lt _ e).1; omega)
                  have o2 := own_setCell (own_setCell HO7.out (p := ⟨w.heap.size + 1, 0, none⟩) (.slice a8 st.length c8) (fun e => by have h : w8.heap.size ≤ w.heap.size + 1 := (HO7.out.lt _ e).1; omega)) (p := ⟨w.heap.size + 1, 1, none⟩) (.slice a7 (lp.length + 1 + sg.length) c7) (fun e => by have h : w8.heap.size ≤ w.heap.size + 1 := (HO7.out.lt _ e).1; omega)
                  obtain ⟨_, _, e1, hr1⟩ := id o1.row
                  simp only [Value.slice.injEq] at e1
                  obtain ⟨rfl, -, rfl⟩ := e1
                  have hr1t := hr1.take st.length (by omega)
                  rw [Nat.mul_one, show (natV (st ++ [b'])).take st.length = natV st by simp [natV]] at hr1t
                  have hXF := ext_st (ext_st HXE7.out (p := ⟨w.heap.size + 1, 0, none⟩) (Nat.le_succ _) (.slice a8 st.length c8)) (p := ⟨w.heap.size + 1, 1, none⟩) (Nat.le_succ _) (.slice a7 (lp.length + 1 + sg.length) c7)
                  have hr2 := o2.reads
                  clear o1 o2 hr1
                  refine bodyPost_ret (v := .tuple #[.agg #[.slice a8 st.length c8, .slice a7 (lp.length + 1 + sg.length) c7], .int .i64 0]) (by simp [results, Try.results5, go_sem, r0, r1]) rfl ⟨.inl ⟨st, (lp ++ [at2]) ++ sg, a8, c8, a7, c7, by rw [hlen], ⟨_, _, rfl, hr1t⟩, by rw [hlen]; exact hr2, hok, hlt, ⟨by omega, by rw [hlen]; exact hlb⟩, b', HF.out⟩, hXF⟩
              · have hcI : ¬ (c : Int) < (l.length : Int) := by omega
                exfalso
                obtain ⟨k2, ⟨l', h1, h2⟩, h3⟩ := way_on HF.out.2.1 (HSB.out at2 (by simp))
                obtain rfl := Option.some.inj (HLQ.out.symm.trans h1)
                obtain ⟨i, hi, e⟩ := List.mem_iff_getElem.1 h2
                have hkn : k2 < n := by have := HLN.out _ h2; omega
                refine HNI.out i k2 (by omega) (by rw [List.getElem?_eq_getElem hi, e]) ?_
                simpa using (HPH.out k2 hkn).2 h3
  · have HNO := Lib.hid hno
    have HX1 := Lib.hid (HE.out.trans hE1)
    have hx2 := ext_al (Ext.refl w1) (Obj.cells #[.int .i64 0] 3)
    have hbr := blk_ext (blk_ext HR.out hE1) hx2
    have r0 := blk_cell hbr (i := 0) rfl
    have r1 := blk_cell hbr (i := 1) rfl
    have f0 := blk_free hbr 0
    have f1 := blk_free hbr 1
    have HXF := Lib.hid (ext_st (ext_st (HX1.out.trans hx2) (p := ⟨w.heap.size + 1, 0, none⟩) (Nat.le_succ _) (.slice none 0 0)) (p := ⟨w.heap.size + 1, 1, none⟩) (Nat.le_succ _) (.slice none 0 0))
    clear hno hE1 hx2 hbr HFA HPA
    go_wp2
    refine bodyPost_ret (v := .tuple #[.agg #[.slice none 0 0, .slice none 0 0], .int .i64 11]) (by simp [results, Try.results5, go_sem, r0, r1]) rfl ⟨.inr ⟨rfl, HNO.out⟩, HXF.out⟩

end Go.Proofs.Ytbndjailimhbdaa
