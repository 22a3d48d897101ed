/- Several texts in one: MdI. No condition. -/
import Derived.Test.YtfcaomejbcjfgaaGreatDoorKx14
import Derived.Outline
import Derived.IntWalk
import Derived.Deep.LoopGhost
import Derived.Deep.Cut
import Derived.Deep.DeepCutAuto
import Derived.Deep.RegionLaw
import Derived.Test.YtfcaomejbcjfgaaGreatDoorKx5
namespace Go.Proofs.YtfcaomejbcjfgaaGreatDoor
open Go.RowKit
def Dn.nmA (i : Nat) : ByteArray := if i = 0 then nmX else nmY
def Dn.sA (d : Dn) (i : Nat) : Int := if i = 0 then d.s0 else d.s1
def Dn.lA (d : Dn) (i : Nat) : Int := if i = 0 then d.l0 else d.l1
def Dn.iA (d : Dn) (i : Nat) : Int := if i = 0 then d.i0 else d.i1
theorem Dn.take_vars (d : Dn) {i : Nat} (h : i < 2) : d.vars.take (i + 1) = d.vars.take i ++ [dVar (Dn.nmA i) (d.sA i) (d.lA i) (d.iA i)] := by
  have : i = 0 ∨ i = 1 := by omega
  rcases this with rfl | rfl <;> rfl
def dnc (d : Dn) (rv : Value) : Array Value := #[.int .i64 d.s0, .int .i64 d.s1, .int .i64 d.l0, .int .i64 d.l1, .int .i64 d.i0, .int .i64 d.i1, rv]
structure MB (w : World) (d : Dn) (pv : Value) (wr : World) (vv rv : Value) : Prop where
  e : Ext w wr
  sz : w.heap.size + 4 ≤ wr.heap.size
  a : wr.heap[w.heap.size]? = some (.cells (dnc d pv) 25 (0, 0))
  r : wr.heap[w.heap.size + 1]? = some (.cells #[.slice none 0 0, .slice none 0 0] 30 (0, 0))
  m : wr.heap[w.heap.size + 1 + 1]? = some (.cells #[vv, rv] 30 (0, 0))
  n : wr.heap[w.heap.size + 1 + 1 + 1]? = some (.cells #[.string nmX, .string nmY] 9 (0, 0))
theorem MB.ext {w : World} {d : Dn} {pv : Value} {wr w' : World} {vv rv : Value} (h : MB w d pv wr vv rv) (hE : Ext wr w') : MB w d pv w' vv rv :=
  ⟨h.e.trans hE, Nat.le_trans h.sz hE.size, blk_ext h.a hE, blk_ext h.r hE, blk_ext h.m hE, blk_ext h.n hE⟩
theorem MB.grown {w : World} {d : Dn} {pv : Value} {wr w' : World} {vv rv : Value} {row : Option Nat} (h : MB w d pv wr vv rv) (hg : wr.grownBy w' row) (hr : ∀ b, row = some b → w.heap.size + 4 ≤ b) : MB w d pv w' vv rv := by
  have hn : ∀ k, k < 4 → some (w.heap.size + k) ≠ row := fun k hk e => by have := hr _ e.symm; omega
  exact ⟨Below.grown h.e hg h.e.size (fun b hb => by have := hr b hb; omega), Nat.le_trans h.sz hg.size, blk_grown h.a hg (hn 0 (by omega)), blk_grown h.r hg (hn 1 (by omega)), blk_grown h.m hg (hn 2 (by omega)), blk_grown h.n hg (hn 3 (by omega))⟩
theorem MB.setV {w : World} {d : Dn} {pv : Value} {wr : World} {vv rv : Value} (h : MB w d pv wr vv rv) (v : Value) : MB w d pv (wr.setCell ⟨w.heap.size + 1 + 1, 0, none⟩ v) v rv :=
  ⟨ext_st h.e (by show w.heap.size ≤ w.heap.size + 1 + 1; omega) v, by have := h.sz; simpa using this, blk_far h.a (by show w.heap.size + 1 + 1 ≠ w.heap.size; omega) v, blk_far h.r (by show w.heap.size + 1 + 1 ≠ w.heap.size + 1; omega) v, blk_set h.m v, blk_far h.n (by show w.heap.size + 1 + 1 ≠ w.heap.size + 1 + 1 + 1; omega) v⟩
theorem MB.setR {w : World} {d : Dn} {pv : Value} {wr : World} {vv rv : Value} (h : MB w d pv wr vv rv) (v : Value) : MB w d pv (wr.setCell ⟨w.heap.size + 1 + 1, 1, none⟩ v) vv v :=
  ⟨ext_st h.e (by show w.heap.size ≤ w.heap.size + 1 + 1; omega) v, by have := h.sz; simpa using this, blk_far h.a (by show w.heap.size + 1 + 1 ≠ w.heap.size; omega) v, blk_far h.r (by show w.heap.size + 1 + 1 ≠ w.heap.size + 1; omega) v, blk_set h.m v, blk_far h.n (by show w.heap.size + 1 + 1 ≠ w.heap.size + 1 + 1 + 1; omega) v⟩
set_option maxRecDepth 100000 in
set_option maxHeartbeats 8000000 in
theorem model_any (pv : Value) (d : Dn) (w : World) (hpl : IsPlans w pv d.rules) (hd : DnI d) :
    Calls Tryz.prog 9 #[.agg (dnc d pv)] w fun e w' => ∃ vv rv, e = .returned (.agg #[vv, rv]) ∧ IsMd w' vv rv d.md ∧ Ext w w' := by
  obtain ⟨ap, cp, rfl, hpm, bp, op, hp1, hp2⟩ := hpl.at
  unfold maxLen at hpm
  have HP1 := Lib.hid hp1
  have HP2 := Lib.hid hp2
  have HPI := Lib.hid hd.rules
  have HSI := Lib.hid (show ∀ i, I64 (d.sA i) from fun i => by unfold Dn.sA; split; exact hd.s0; exact hd.s1)
  have HLI := Lib.hid (show ∀ i, I64 (d.lA i) from fun i => by unfold Dn.lA; split; exact hd.l0; exact hd.l1)
  have HII := Lib.hid (show ∀ i, I64 (d.iA i) from fun i => by unfold Dn.iA; split; exact hd.i0; exact hd.i1)
  clear hpl hp1 hp2 hd
  obtain ⟨pv, hpv⟩ : ∃ pv, pv = Value.slice ap d.rules.length cp := ⟨_, rfl⟩
  rw [← hpv]
  have HPV := Lib.hid hpv
  have HB0 := Lib.hid (show MB w d pv ((((w.alloc (.cells (dnc d pv) 25)).alloc (.cells #[.slice none 0 0, .slice none 0 0] 30)).alloc (.cells #[.slice none 0 0, .slice none 0 0] 30)).alloc (.cells #[.string nmX, .string nmY] 9)) (.slice none 0 0) (.slice none 0 0) from by
    have e0 := blk_new w (Obj.cells (dnc d pv) 25)
    have e1 := blk_new (w.alloc (.cells (dnc d pv) 25)) (Obj.cells #[.slice none 0 0, .slice none 0 0] 30)
    have e2 := blk_new ((w.alloc (.cells (dnc d pv) 25)).alloc (.cells #[.slice none 0 0, .slice none 0 0] 30)) (Obj.cells #[.slice none 0 0, .slice none 0 0] 30)
    have e3 := blk_new (((w.alloc (.cells (dnc d pv) 25)).alloc (.cells #[.slice none 0 0, .slice none 0 0] 30)).alloc (.cells #[.slice none 0 0, .slice none 0 0] 30)) (Obj.cells #[.string nmX, .string nmY] 9)
    rw [show ∀ (a : World) (o : Obj), (a.alloc o).heap.size = a.heap.size + 1 from fun a o => by simp] at e1 e2 e3
    rw [show ∀ (a : World) (o : Obj), (a.alloc o).heap.size = a.heap.size + 1 from fun a o => by simp] at e2 e3
    rw [show ∀ (a : World) (o : Obj), (a.alloc o).heap.size = a.heap.size + 1 from fun a o => by simp] at e3
    have x : ∀ (a : World) (o : Obj), Ext a (a.alloc o) := fun a o => ext_al (Ext.refl a) o
    exact ⟨(((x _ _).trans (x _ _)).trans (x _ _)).trans (x _ _), by simp, blk_ext (blk_ext (blk_ext e0 (x _ _)) (x _ _)) (x _ _), blk_ext (blk_ext e1 (x _ _)) (x _ _), blk_ext e2 (x _ _), e3⟩)
  clear hpv
  simp only [dnc] at HB0 ⊢
  go_enter Tryz.func9, Tryz.ntmps9
  go_wp2_with fail
  obtain ⟨W0, hW0⟩ : ∃ W0, W0 = ((((w.alloc (.cells #[.int .i64 d.s0, .int .i64 d.s1, .int .i64 d.l0, .int .i64 d.l1, .int .i64 d.i0, .int .i64 d.i1, pv] 25)).alloc (.cells #[.slice none 0 0, .slice none 0 0] 30)).alloc (.cells #[.slice none 0 0, .slice none 0 0] 30)).alloc (.cells #[.string nmX, .string nmY] 9)) := ⟨_, rfl⟩
  rw [← hW0] at HB0 ⊢
  clear hW0
  have hB0s := HB0.out.sz
  have HO0 := Lib.hid (show W0.ownsRow (w.heap.size + 4) 43 4 (.slice none 0 0) 0 [] from World.ownsRow_nil _ _ _ _)
  go_loopg [5] 2 (fun k x wr => ∃ (i : Nat) (vv : Value), k + i = 2 ∧ x = .int .i64 (i : Int) ∧ MB w d pv wr vv (.slice none 0 0) ∧ wr.ownsRow (w.heap.size + 4) 43 4 vv i ((d.vars.take i).flatMap vrc))
  case atStart => exact ⟨0, .slice none 0 0, by omega, by go_num, HB0.out, HO0.out⟩
  case round =>
    obtain ⟨i, vv, hki, rfl, hB, hO⟩ := hrel
    clear HB0 HO0 hB0s
    have HKI := Lib.hid hki
    have HB := Lib.hid hB
    have HO := Lib.hid hO
    have hBs := hB.sz
    by_cases hi : i < 2
    · have hiI : (i : Int) < 2 := by omega
      have hi0 : (0 : Int) ≤ (i : Int) := by omega
      have hii : i = 0 ∨ i = 1 := by omega
      have aS : wr.cell? ⟨w.heap.size, i, none⟩ = some (.int .i64 (d.sA i)) := blk_cell hB.a (by rcases hii with rfl | rfl <;> rfl)
      have aL : wr.cell? ⟨w.heap.size, 2 + i, none⟩ = some (.int .i64 (d.lA i)) := blk_cell hB.a (by rcases hii with rfl | rfl <;> rfl)
      have aI : wr.cell? ⟨w.heap.size, 4 + i, none⟩ = some (.int .i64 (d.iA i)) := blk_cell hB.a (by rcases hii with rfl | rfl <;> rfl)
      have aN : wr.cell? ⟨w.heap.size + 1 + 1 + 1, i, none⟩ = some (.string (Dn.nmA i)) := blk_cell hB.n (by rcases hii with rfl | rfl <;> rfl)
      have aM : wr.cell? ⟨w.heap.size + 1 + 1, 0, none⟩ = some vv := blk_cell hB.m rfl
      obtain ⟨l1, l2⟩ := HLI.out i
      obtain ⟨s1, s2⟩ := HSI.out i
      obtain ⟨i1, i2⟩ := HII.out i
      have hb1 := pk_bd (d.lA i) 3 (by omega)
      have hb2 := pk_bd (d.sA i) 4 (by omega)
      have HTK := Lib.hid (d.take_vars hi)
      obtain ⟨av, cv, rfl, _⟩ := hO.row
      clear hB hO hki hii
      unfold dVar at HTK
      generalize Dn.nmA i = nm at *
      go_wp2_with fail
      refine (picked_any (d.lA i) 3 _ l1 l2 (by omega) (by omega)).mono ?_
      rintro e w' ⟨rfl, rfl⟩
      go_wp2_with fail
      refine (picked_any (d.sA i) 4 _ s1 s2 (by omega) (by omega)).mono ?_
      rintro e w' ⟨rfl, rfl⟩
      have HPK := Lib.hid fun wx => picked_any (d.iA i) (pk (d.sA i) 4 + 1) wx i1 i2 (by omega) (by omega)
      have hb3 := pk_bd (d.iA i) (pk (d.sA i) 4 + 1) (by omega)
      generalize pk (d.iA i) (pk (d.sA i) 4 + 1) = p3 at *
      generalize pk (d.lA i) 3 = p1 at *
      generalize pk (d.sA i) 4 = p2 at *
      clear aS aL
      go_upto_region 8 with fail
      have t1 : IntKind.i64.wrap (p1 - 1 + p2 - (p1 - 1)) = p2 := (IntWalk.i64_in _ (by omega)).trans (by omega)
      have t2 : IntKind.i64.wrap (p2 + 1) = p2 + 1 := IntWalk.i64_in _ (by omega)
      have t3 : IntKind.i64.wrap (p1 - 1 + p3) = p1 - 1 + p3 := IntWalk.i64_in _ (by omega)
      have HO5 := Lib.hid fun (o : Obj) => own_ext HO.out (Below.drew (ext_al (Ext.refl wr) o))
      have HB5 := Lib.hid fun (o : Obj) => HB.out.ext (Below.drew (ext_al (Ext.refl wr) o))
      have hi63 : i + 1 ≤ 9223372036854775807 := by omega
      have cM5 := fun (o : Obj) => blk_cell (HB5.out o).m (i := 0) rfl
      have aM5 : (wr.alloc (Obj.cells #[.string nm, .int .i64 (p1 - 1), .int .i64 (p1 - 1 + p2), .int .i64 (p1 - 1 + p3)] 43)).cell? ⟨w.heap.size + 1 + 1, 0, none⟩ = some (.slice av i cv) := cM5 _
      clear cM5
      go_region_law (first
        | (refine step_append rfl rfl Tryz.slVars (w.heap.size + 4) (by rfl) (HO5.out _) (by rfl) ((Row.newK _ _ 4 _ _ rfl rfl).ext (Below.drew (Ext.refl _))) (by intro u hu; simp only [List.mem_cons, List.not_mem_nil, or_false] at hu; rcases hu with rfl | rfl | rfl | rfl <;> rfl) (by unfold maxLen; omega) (by omega) (by simp; omega) ?_
           intro v6 w6 hown6 hg6 hb6 _
           obtain ⟨a6, c6, rfl, _⟩ := hown6.row
           have hB6 := (HB5.out _).grown hg6 (fun b hb => (HO.out.lt b hb).1)
           have cM6 := blk_cell hB6.m (i := 0) rfl
           have fM6 := blk_free hB6.m 0
           have HB6 := Lib.hid hB6
           have HO6 := Lib.hid hown6
           clear hB6 hown6 hg6 hb6)
        | (go_simp
           go_at_call 22
           refine (HPK.out _).mono ?_
           rintro e wq ⟨rfl, rfl⟩))
      all_goals
        have HM7 := Lib.hid (HB6.out.setV (.slice a6 (i + 1) c6))
        have HO7 := Lib.hid (own_setCell HO6.out (p := ⟨w.heap.size + 1 + 1, 0, none⟩) (.slice a6 (i + 1) c6) (fun e => by have := (HO6.out.lt _ e).1; simp at this; omega))
        clear aM5 aM aI aN cM6 fM6 HB6 HO6 HPK HB5 HO5 t1 t2 t3
        generalize w6.setCell ⟨w.heap.size + 1 + 1, 0, none⟩ (.slice a6 (i + 1) c6) = w7 at *
        go_wp2_with fail
        go_roundg (gk - 1)
        case measure => have := HKI.out; omega
        case rel => exact ⟨i + 1, _, by have := HKI.out; omega, by go_num, HM7.out, by
          rw [HTK.out, List.flatMap_append]
          simpa [vrc] using HO7.out⟩
    · have hiI : ¬ (i : Int) < 2 := by omega
      obtain rfl : i = 2 := by omega
      obtain ⟨av, cv, rfl, _⟩ := hO.row
      have hv2 : d.vars.take 2 = d.vars := rfl
      rw [hv2] at HO
      have hR0 := RMem.nil wr wr.heap.size (Nat.le_refl _)
      have HR0 := Lib.hid hR0
      obtain ⟨W1, hW1⟩ : ∃ W1, W1 = wr := ⟨_, rfl⟩
      have hBW : w.heap.size + 4 ≤ W1.heap.size := by rw [hW1]; exact hBs
      have HVB := Lib.hid (show ∀ b, (Value.slice av 2 cv).ownBlock = some b → b < W1.heap.size from fun b hb => by rw [hW1]; exact (HO.out.lt b hb).2)
      rw [← hW1] at HR0
      have HW1 := Lib.hid hW1
      have aA : wr.cell? ⟨w.heap.size, 6, none⟩ = some pv := blk_cell hB.a rfl
      clear hB hO hki hR0 hW1 hv2
      go_wp2_with fail
      clear aA
      go_loopg [8] d.rules.length (fun k x wr => ∃ (i : Nat) (rv : Value) (τ : Nat → Nat), k + i = d.rules.length ∧ i ≤ 5 ∧ x = .int .i64 (i : Int) ∧ MB w d pv wr (.slice av 2 cv) rv ∧ wr.ownsRow (w.heap.size + 4) 43 4 (.slice av 2 cv) 2 (d.vars.flatMap vrc) ∧ RMem τ W1.heap.size wr rv ((d.rules.take i).map dRule))
      case atStart => exact ⟨0, _, _, by omega, by omega, by go_num, HB.out, HO.out, by have h := HR0.out; rw [HW1.out] at h ⊢; exact h⟩
      case round =>
        obtain ⟨i, rv, τ, hki, hi5, rfl, hB, hO, hR⟩ := hrel
        clear HB HO HR0 HW1
        have HKI := Lib.hid hki
        have HB := Lib.hid hB
        have HO := Lib.hid hO
        have HR := Lib.hid hR
        have hBs := hB.sz
        have hRs := hR.size
        have aA : wr.cell? ⟨w.heap.size, 6, none⟩ = some pv := blk_cell hB.a rfl
        obtain rfl := HPV.out
        by_cases hi : i < d.rules.length ∧ i < 5
        · have hil := hi.1
          have hiI : (i : Int) < (d.rules.length : Int) := by omega
          have hi5I : (i : Int) < 5 := by omega
          have hi0 : (0 : Int) ≤ (i : Int) := by omega
          obtain rfl := HP1.out (by omega)
          obtain ⟨g, s, c0, c1, c2, c3, hg, hs⟩ := HP2.out i hil
          have hpi := HPI.out d.rules[i] (by simp)
          obtain ⟨pv1, pv2⟩ := hpi.var
          have HTR := Lib.hid fun wx (hx : Ext w wx) => mkTruth g d.rules[i].guard 2 wx (ops_ext hg hx) hpi.guard (by omega)
          have HNU := Lib.hid fun wx (hx : Ext w wx) => mkNumber s d.rules[i].value 2 wx (ops_ext hs hx) hpi.value (by omega)
          have c0 := cell_later hB.e c0
          have c1 := cell_later hB.e c1
          have c2 := cell_later hB.e c2
          have c3 := cell_later hB.e c3
          obtain ⟨ag, cg, rfl, _⟩ := hg
          obtain ⟨as', cs', rfl, _⟩ := hs
          have hx0 := ext_al (Ext.refl wr) (Obj.cells #[.slice ag d.rules[i].guard.length cg, .int .i64 d.rules[i].var, .slice as' d.rules[i].value.length cs', .bool d.rules[i].both] 82)
          have hb0 := blk_new wr (Obj.cells #[.slice ag d.rules[i].guard.length cg, .int .i64 d.rules[i].var, .slice as' d.rules[i].value.length cs', .bool d.rules[i].both] 82)
          have HBP := Lib.hid hb0
          have HX0 := Lib.hid hx0
          have HXW := Lib.hid (hB.e.trans hx0)
          have g0 := blk_cell hb0 (i := 0) rfl
          have HTK := Lib.hid (show (d.rules.take (i + 1)).map dRule = (d.rules.take i).map dRule ++ [dRule d.rules[i]] by rw [List.take_succ_eq_append_getElem hil, List.map_append]; rfl)
          have HDR := Lib.hid (show dRule d.rules[i] = ⟨truO d.rules[i].guard 2, (pk d.rules[i].var 2, numO d.rules[i].value 2) :: (if d.rules[i].both = true then [(1 - pk d.rules[i].var 2, .n0 2 (pk d.rules[i].var 2))] else [])⟩ from rfl)
          generalize dRule d.rules[i] = dr at *
          generalize d.rules[i].guard = rg at *
          generalize d.rules[i].var = rvar at *
          generalize d.rules[i].value = rval at *
          generalize d.rules[i].both = rboth at *
          generalize truO rg 2 = T at *
          generalize numO rval 2 = V at *
          clear hB hO hR hx0 hb0 hki hi hpi
          go_wp2_with fail
          generalize wr.alloc (Obj.cells #[.slice ag rg.length cg, .int .i64 rvar, .slice as' rval.length cs', .bool rboth] 82) = W2 at *
          refine (HTR.out _ HXW.out).mono ?_
          rintro e w3 ⟨tv, rfl, hto, hE3⟩
          obtain ⟨at', ct, rfl, _⟩ := hto.row
          obtain ⟨nT, hnT⟩ : ∃ n, T.flat.length = n := ⟨_, rfl⟩
          rw [hnT] at hto ⊢
          have HNT := Lib.hid hnT
          have hx4 := ext_al (Ext.refl w3) (Obj.cells #[.slice at' nT ct, .slice none 0 0] 46)
          have hb4 := blk_new w3 (Obj.cells #[.slice at' nT ct, .slice none 0 0] 46)
          have g1 := blk_cell (blk_ext (blk_ext HBP.out hE3) hx4) (i := 1) rfl
          have HBP4 := Lib.hid (blk_ext (blk_ext HBP.out hE3) hx4)
          have HX4 := Lib.hid ((HX0.out.trans hE3).trans hx4)
          have HB4 := Lib.hid hb4
          have HTO := Lib.hid (own_ext hto hx4)
          have HE3 := Lib.hid (hE3.trans hx4)
          have HTL := Lib.hid (show ∀ b, (Value.slice at' nT ct).ownBlock = some b → b < w3.heap.size from fun b hb => (hto.lt b hb).2)
          have h23 := hE3.size
          have hr2 := HX0.out.size
          have hPlt := blk_lt HBP.out
          have hR4 := hx4.size
          clear hx4 hb4 hto hE3 hnT g0 HBP c0 c1 c2 c3 HTR
          have hpk := pk_bd rvar 2 (by omega)
          go_wp2_with fail
          obtain ⟨w3h, hw3h⟩ : ∃ n, w3.heap.size = n := ⟨_, rfl⟩
          rw [hw3h] at HB4 h23 hR4 HTL ⊢
          generalize w3.alloc (Obj.cells #[.slice at' nT ct, .slice none 0 0] 46) = W4 at *
          have hW4 := blk_lt HB4.out
          clear hw3h
          refine (picked_any rvar 2 _ pv1 pv2 (by omega) (by omega)).mono ?_
          rintro e w' ⟨rfl, rfl⟩
          generalize pk rvar 2 = kv at *
          clear g1
          go_upto_region 15 with fail
          have g2 : W4.cell? ⟨wr.heap.size, 2, none⟩ = some (.slice as' rval.length cs') := blk_cell HBP4.out rfl
          have r1 : W4.cell? ⟨w3h, 1, none⟩ = some (.slice none 0 0) := blk_cell HB4.out rfl
          have fr1 : W4.frozen? ⟨w3h, 1, none⟩ = false := blk_free HB4.out 1
          have HXW4 := Lib.hid (HB.out.e.trans HX4.out)
          obtain ⟨nV, hnV⟩ : ∃ n, V.flat.length = n := ⟨_, rfl⟩
          rw [hnV] at HNU
          have HNV := Lib.hid hnV
          clear hnV
          go_cut [11] (fun s11 wx => s11 = .int .i64 kv ∧ ∃ (K cn a6 c6 : _) (an : Option Addr), wx.heap[w3h]? = some (.cells #[.slice at' nT ct, .slice a6 1 c6] 46 (0, 0)) ∧ Below w3h W4 wx ∧ W4.heap.size ≤ K ∧ K ≤ wx.heap.size ∧
            wx.ownsRow K 49 2 (.slice a6 1 c6) 1 [.int .i64 kv, .slice an nV cn] ∧ wx.ownsRow W4.heap.size 79 2 (.slice an nV cn) nV (V.flat.flatMap opc) ∧ (∀ b, (Value.slice an nV cn).ownBlock = some b → b < K))
          case first =>
            go_region_law (first
              | (refine step_append rfl rfl Tryz.slSets (World.heap wn).size (by rfl) (World.ownsRow_nil _ _ _ _) (by rfl) (by first | exact Row.newK _ _ 2 _ _ rfl rfl | exact (Row.newK _ _ 2 _ _ rfl rfl).ext (Below.drew (Ext.refl _))) (by intro u hu; simp only [List.mem_cons, List.not_mem_nil, or_false] at hu; rcases hu with rfl | rfl <;> rfl) (by unfold maxLen; omega) (by omega) (by simp) ?_
                 intro v6 w6 hown6 hg6 hb6 _
                 obtain ⟨a6, c6, rfl, _⟩ := hown6.row
                 have x6 := (ext_al (Ext.refl wn) (Obj.cells #[.int .i64 kv, .slice an nV cn] 49)).grown hg6 (by simp) (by simp [Value.ownBlock])
                 have hR6 := blk_ext HRN.out x6
                 have cR6 := blk_cell hR6 (i := 1) rfl
                 have fR6 := blk_free hR6 1
                 have HR6 := Lib.hid hR6
                 have HX6 := Lib.hid x6
                 have HO6 := Lib.hid hown6
                 clear x6 hR6 hown6 hg6 hb6)
              | (go_simp
                 go_at_call 24
                 refine (HNU.out _ (Below.drew HXW4.out)).mono ?_
                 rintro e wn ⟨nv, rfl, hno, hEn⟩
                 obtain ⟨an, cn, rfl, _⟩ := hno.row
                 have hRn := blk_ext (blk_ext HB4.out (Below.drew (Ext.refl _))) hEn
                 have cRn := blk_cell hRn (i := 1) rfl
                 have fRn := blk_free hRn 1
                 have cRa := blk_cell (blk_ext hRn (ext_al (Ext.refl wn) (Obj.cells #[.int .i64 kv, .slice an nV cn] 49))) (i := 1) rfl
                 have HRN := Lib.hid hRn
                 have HNO := Lib.hid hno
                 have HEN := Lib.hid (Ext.trans (Below.drew (Ext.refl W4)) hEn)
                 clear hRn hno hEn))
            all_goals
              go_wp2_with fail
              go_meet
              have hsz : W4.heap.size ≤ wn.heap.size := HEN.out.size
              have hRW : w3h < W4.heap.size := hW4
              have hne : ∀ b, (Value.slice a6 1 c6).ownBlock = some b → b ≠ w3h := fun b hb => by have := (HO6.out.lt b hb).1; omega
              have hne2 : ∀ b, (Value.slice an nV cn).ownBlock = some b → b ≠ w3h := fun b hb => by have := (HNO.out.lt b hb).1; have e : W4.drew.heap.size = W4.heap.size := rfl; omega
              exact ⟨rfl, wn.heap.size, cn, a6, c6, an, blk_set HR6.out _, Below.setCell (Below.mono (HEN.out.trans HX6.out) (show w3h ≤ W4.heap.size from Nat.le_of_lt hRW)) (Nat.le_refl _) _, hsz, by simpa using HX6.out.size,
                own_setCell HO6.out _ (fun e => hne _ e rfl), own_setCell (own_ext HNO.out HX6.out) _ (fun e => hne2 _ e rfl), fun b hb => (HNO.out.lt b hb).2⟩
          case rest =>
            obtain ⟨rfl, K, cn, a6, c6, an, hR6, hX6, hK1, hK2, hs6, hv6, hvK⟩ := hcut
            have HR6 := Lib.hid hR6
            have hXr : Ext wr wc := Below.trans HX4.out (Below.mono hX6 (by omega))
            have HXR := Lib.hid hXr
            have HTM := Lib.hid (show OwnTm wr.heap.size wc (.slice at' nT ct) T from by
              unfold OwnTm
              rw [HNT.out]
              exact own_down (own_below HTO.out hX6 HTL.out) (by omega))
            have HVM := Lib.hid (show OwnTm wr.heap.size wc (.slice an nV cn) V from by
              unfold OwnTm
              rw [HNV.out]
              exact own_down hv6 (by omega))
            have HS6 := Lib.hid hs6
            have HVK := Lib.hid hvK
            have HV6 := Lib.hid hv6
            have HBP6 := Lib.hid (blk_below HBP4.out hX6 (by omega))
            have g3 : wc.cell? ⟨wr.heap.size, 3, none⟩ = some (.bool rboth) := blk_cell HBP6.out rfl
            obtain ⟨css, k1, k2, k3, k4⟩ := HR.out.row
            obtain ⟨arv, crv, hrvv, _⟩ := k3.own.row
            obtain ⟨nR, hnR⟩ : ∃ n, ((d.rules.take i).map dRule).length = n := ⟨_, rfl⟩
            have hnR5 : nR ≤ 5 := by rw [← hnR]; simp; omega
            rw [hnR] at hrvv
            subst hrvv
            have K1 := Lib.hid k1
            have K2 := Lib.hid k2
            have K3 := Lib.hid k3
            have K4 := Lib.hid k4
            have KO := Lib.hid k3.own
            rw [hnR] at KO
            have HNR := Lib.hid hnR
            clear hnR
            have fr1 := blk_free hR6 1
            have rr1 : wc.cell? ⟨w3h, 1, none⟩ = some (.slice a6 1 c6) := blk_cell hR6 rfl
            have hwcs := HXR.out.size
            clear hR6 hX6 hs6 hv6 hvK hXr k1 k2 k3 k4 r1
            cases rboth
            · have HSS := Lib.hid (show OwnSets wr.heap.size wc (.slice a6 1 c6) dr.sets from by
                rw [HDR.out]
                exact ownSets_one (own_down HS6.out (by omega)) HVM.out)
              have HTT := Lib.hid (show OwnTm wr.heap.size wc (.slice at' nT ct) dr.guard from by rw [HDR.out]; exact HTM.out)
              clear HDR rr1
              have r0 : (wc).cell? ⟨w3h, 0, none⟩ = some (.slice at' nT ct) := blk_cell HR6.out rfl
              have r1 : (wc).cell? ⟨w3h, 1, none⟩ = some (Value.slice a6 1 c6) := blk_cell HR6.out rfl
              have m1 : (wc).cell? ⟨w.heap.size + 1 + 1, 1, none⟩ = some (.slice arv nR crv) := blk_cell (HB.out.ext HXR.out).m rfl
              have HRO := Lib.hid fun (o : Obj) => own_ext KO.out (HXR.out.trans (ext_al (Ext.refl (wc)) o))
              have hwz := HXR.out.size
              go_wp2_with (at_builtin; go_must (refine wpl_append rfl rfl Tryz.slRules W1.heap.size rfl (HRO.out _) rfl (Row.newK _ _ 2 _ _ rfl rfl) (by intro u hu; simp only [List.mem_cons, List.not_mem_nil, or_false] at hu; rcases hu with rfl | rfl <;> rfl) (by unfold maxLen; omega) (by omega) (by simp; omega) ?_))
              intro v8 w8 hown8 hg8 hb8 _
              obtain ⟨a8, c8, rfl, _⟩ := hown8.row
              have hxz := ext_al (Ext.refl (wc)) (Obj.cells #[.slice at' nT ct, Value.slice a6 1 c6] 46)
              obtain ⟨τ', hR8⟩ := RMem.push HR.out (HXR.out.trans hxz) (HTT.out.ext hxz) (HSS.out.ext hxz) K1.out K2.out K3.out K4.out (by rw [HNR.out]; exact hown8) hg8 (by rcases hb8 with h | h; exact .inl h; right; rw [h]; simp)
              have hB8 := (HB.out.ext (HXR.out.trans hxz)).grown hg8 (fun b hb => by have := (K3.out.own.lt b hb).1; omega)
              have hO8 := own_grown (own_ext HO.out (HXR.out.trans hxz)) hg8 (by
                by_cases e : (Value.slice av 2 cv).ownBlock = none
                · exact .inl e
                · refine .inr fun e2 => ?_
                  obtain ⟨b, hb⟩ := Option.ne_none_iff_exists'.1 e
                  have h1 := HVB.out b hb
                  have h2 := (K3.out.own.lt b (by rw [← e2]; exact hb)).1
                  omega)
              have cM8 := blk_cell hB8.m (i := 1) rfl
              have fM8 := blk_free hB8.m 1
              have HB9 := Lib.hid (hB8.setR (.slice a8 (nR + 1) c8))
              have HR9 := Lib.hid (hR8.low (p := ⟨w.heap.size + 1 + 1, 1, none⟩) (by show w.heap.size + 1 + 1 < W1.heap.size; omega) (.slice a8 (nR + 1) c8))
              have HO9 := Lib.hid (own_setCell hO8 (p := ⟨w.heap.size + 1 + 1, 1, none⟩) (.slice a8 (nR + 1) c8) (fun e => by have := (hO8.lt _ e).1; simp at this; omega))
              clear r0 r1 m1 HRO hown8 hg8 hb8 hxz hR8 hB8 hO8
              go_wp2_with fail
              go_roundg (gk - 1)
              case measure => have := HKI.out; omega
              case rel => exact ⟨i + 1, _, τ', by have := HKI.out; omega, by omega, by go_num, HB9.out, HO9.out, by rw [HTK.out]; exact HR9.out⟩
            · have hv2o : ∀ (o : Obj), ((wc.alloc (Obj.cells #[.int .i64 2, .int .i64 kv] 79)).alloc o).ownsRow wc.heap.size 79 2 (.slice (some ⟨wc.heap.size, 0, none⟩) 1 1) 1 [.int .i64 2, .int .i64 kv] := fun o => (World.ownsRow_lit (base := wc.heap.size) (e := 79) (size := 2) wc #[.int .i64 2, .int .i64 kv] 1 (Nat.le_refl _) (by unfold maxLen; omega) rfl).alloc o
              have HS7 := Lib.hid fun (o1 o2 : Obj) => own_ext HS6.out ((ext_al (Ext.refl wc) o1).trans (ext_al (Ext.refl (wc.alloc o1)) o2))
              have m2 : IntKind.i64.wrap (1 - kv) = 1 - kv := IntWalk.i64_in _ (by omega)
              go_wp2_with (at_builtin; go_must (refine wpl_append rfl rfl Tryz.slSets K rfl (HS7.out _ _) rfl (Row.newK _ _ 2 _ _ rfl (by simp)) (by intro u hu; simp only [List.mem_cons, List.not_mem_nil, or_false] at hu; rcases hu with rfl | rfl <;> rfl) (by unfold maxLen; omega) (by omega) (by simp; omega) ?_))
              intro v7 w7 hown7 hg7 hb7 _
              obtain ⟨a7, c7, rfl, _⟩ := hown7.row
              have e2 := (ext_al (Ext.refl wc) (Obj.cells #[.int .i64 2, .int .i64 kv] 79)).trans (ext_al (Ext.refl (wc.alloc (Obj.cells #[.int .i64 2, .int .i64 kv] 79))) (Obj.cells #[.int .i64 (1 - kv), .slice (some ⟨wc.heap.size, 0, none⟩) 1 1] 49))
              have x7 : Below K wc w7 := Below.grown (Below.mono e2 hK2) hg7 (Nat.le_trans hK2 e2.size) (fun b hb => (HS6.out.lt b hb).1)
              have hu2 := own_grown (hv2o _) hg7 (.inr fun e => by
                have h1 := (HS6.out.lt wc.heap.size (by rw [← e]; rfl)).2
                omega)
              have hT7 := own_below HTM.out x7 (fun k hk => by have := HTL.out k hk; omega)
              have hV7 := own_below HVM.out x7 HVK.out
              have hR7 := blk_below HR6.out x7 (by omega)
              have hXr7 : Ext wr w7 := Below.trans HXR.out (Below.mono x7 (by omega))
              have cR7 := blk_cell hR7 (i := 1) rfl
              have fR7 := blk_free hR7 1
              have n1 : ∀ k, (Value.slice at' nT ct).ownBlock = some k → k ≠ w3h := fun k hk => by have := HTL.out k hk; omega
              have n2 : ∀ k, (Value.slice an nV cn).ownBlock = some k → k ≠ w3h := fun k hk => by have := (HV6.out.lt k hk).1; omega
              have n3 : ∀ k, (Value.slice a7 2 c7).ownBlock = some k → k ≠ w3h := fun k hk => by have := (hown7.lt k hk).1; omega
              have HTT := Lib.hid (show OwnTm wr.heap.size (w7.setCell ⟨w3h, 1, none⟩ (.slice a7 2 c7)) (.slice at' nT ct) dr.guard from by
                rw [HDR.out]
                exact own_setCell hT7 _ (fun e => n1 _ e rfl))
              have HSS := Lib.hid (show OwnSets wr.heap.size (w7.setCell ⟨w3h, 1, none⟩ (.slice a7 2 c7)) (.slice a7 2 c7) dr.sets from by
                rw [HDR.out]
                refine ownSets_two (s := (kv, V)) (s' := (1 - kv, .n0 2 kv)) (own_down (own_setCell hown7 _ (fun e => n3 _ e rfl)) (by omega)) ?_ ?_
                · exact own_setCell hV7 _ (fun e => n2 _ e rfl)
                · exact own_down (own_setCell hu2 _ (fun e => by simp [Value.ownBlock] at e; omega)) hwcs)
              have HR8 := Lib.hid (blk_set hR7 (i := 1) (.slice a7 2 c7))
              have HX8 := Lib.hid (ext_st hXr7 (p := ⟨w3h, 1, none⟩) (by show wr.heap.size ≤ w3h; omega) (.slice a7 2 c7))
              clear hown7 hg7 hb7 e2 x7 hu2 hT7 hV7 hR7 hXr7 n1 n2 n3 HDR rr1 fr1 g3 hv2o
              go_upto_region 18 with fail
              generalize w7.setCell ⟨w3h, 1, none⟩ (.slice a7 2 c7) = wz at *
              clear cR7 fR7
              have r0 : (wz).cell? ⟨w3h, 0, none⟩ = some (.slice at' nT ct) := blk_cell HR8.out rfl
              have r1 : (wz).cell? ⟨w3h, 1, none⟩ = some (Value.slice a7 2 c7) := blk_cell HR8.out rfl
              have m1 : (wz).cell? ⟨w.heap.size + 1 + 1, 1, none⟩ = some (.slice arv nR crv) := blk_cell (HB.out.ext HX8.out).m rfl
              have HRO := Lib.hid fun (o : Obj) => own_ext KO.out (HX8.out.trans (ext_al (Ext.refl (wz)) o))
              have hwz := HX8.out.size
              go_wp2_with (at_builtin; go_must (refine wpl_append rfl rfl Tryz.slRules W1.heap.size rfl (HRO.out _) rfl (Row.newK _ _ 2 _ _ rfl rfl) (by intro u hu; simp only [List.mem_cons, List.not_mem_nil, or_false] at hu; rcases hu with rfl | rfl <;> rfl) (by unfold maxLen; omega) (by omega) (by simp; omega) ?_))
              intro v8 w8 hown8 hg8 hb8 _
              obtain ⟨a8, c8, rfl, _⟩ := hown8.row
              have hxz := ext_al (Ext.refl (wz)) (Obj.cells #[.slice at' nT ct, Value.slice a7 2 c7] 46)
              obtain ⟨τ', hR8⟩ := RMem.push HR.out (HX8.out.trans hxz) (HTT.out.ext hxz) (HSS.out.ext hxz) K1.out K2.out K3.out K4.out (by rw [HNR.out]; exact hown8) hg8 (by rcases hb8 with h | h; exact .inl h; right; rw [h]; simp)
              have hB8 := (HB.out.ext (HX8.out.trans hxz)).grown hg8 (fun b hb => by have := (K3.out.own.lt b hb).1; omega)
              have hO8 := own_grown (own_ext HO.out (HX8.out.trans hxz)) hg8 (by
                by_cases e : (Value.slice av 2 cv).ownBlock = none
                · exact .inl e
                · refine .inr fun e2 => ?_
                  obtain ⟨b, hb⟩ := Option.ne_none_iff_exists'.1 e
                  have h1 := HVB.out b hb
                  have h2 := (K3.out.own.lt b (by rw [← e2]; exact hb)).1
                  omega)
              have cM8 := blk_cell hB8.m (i := 1) rfl
              have fM8 := blk_free hB8.m 1
              have HB9 := Lib.hid (hB8.setR (.slice a8 (nR + 1) c8))
              have HR9 := Lib.hid (hR8.low (p := ⟨w.heap.size + 1 + 1, 1, none⟩) (by show w.heap.size + 1 + 1 < W1.heap.size; omega) (.slice a8 (nR + 1) c8))
              have HO9 := Lib.hid (own_setCell hO8 (p := ⟨w.heap.size + 1 + 1, 1, none⟩) (.slice a8 (nR + 1) c8) (fun e => by have := (hO8.lt _ e).1; simp at this; omega))
              clear r0 r1 m1 HRO hown8 hg8 hb8 hxz hR8 hB8 hO8
              go_wp2_with fail
              go_roundg (gk - 1)
              case measure => have := HKI.out; omega
              case rel => exact ⟨i + 1, _, τ', by have := HKI.out; omega, by omega, by go_num, HB9.out, HO9.out, by rw [HTK.out]; exact HR9.out⟩
        · have HMB := Lib.hid hB
          have hxi : i = d.rules.length ∨ i = 5 := by omega
          have HTI := Lib.hid (show (d.rules.take i).map dRule = (d.rules.take 5).map dRule by
            rcases hxi with e | e
            · rw [List.take_of_length_le (by omega), List.take_of_length_le (by omega)]
            · rw [e])
          have r0 : wr.cell? ⟨w.heap.size + 1 + 1, 0, none⟩ = some (.slice av 2 cv) := blk_cell hB.m rfl
          have r1 : wr.cell? ⟨w.heap.size + 1 + 1, 1, none⟩ = some rv := blk_cell hB.m rfl
          have q0 := blk_cell hB.r (i := 0) rfl
          have q1 := blk_cell hB.r (i := 1) rfl
          have fq0 := blk_free hB.r 0
          have fq1 := blk_free hB.r 1
          have hir := hR.isRules
          obtain ⟨arv, nrv, crv, hrv⟩ : ∃ a n c, rv = .slice a n c := by
            obtain ⟨a, c, e⟩ := EachL.val hir
            exact ⟨a, _, c, e⟩
          subst hrv
          have HIR := Lib.hid hir
          have hx1 : Ext w wr := hB.e
          have HX1 := Lib.hid hx1
          by_cases hil : i < d.rules.length
          · have hiI : (i : Int) < (d.rules.length : Int) := by omega
            have hi5I : ¬ (i : Int) < 5 := by omega
            clear hB hO hR hki hi hxi hir hx1
            go_wp2
            have hz0 := blk_set (blk_set HMB.out.r (i := 0) (.slice av 2 cv)) (i := 1) (.slice arv nrv crv)
            have s0 := blk_cell hz0 (i := 0) (v := .slice av 2 cv) rfl
            have s1 := blk_cell hz0 (i := 1) (v := .slice arv nrv crv) rfl
            have hv := own_setCell (own_setCell HO.out (p := ⟨w.heap.size + 1, 0, none⟩) (.slice av 2 cv) (fun e => by have := (HO.out.lt _ e).1; simp at this)) (p := ⟨w.heap.size + 1, 1, none⟩) (.slice arv nrv crv) (fun e => by have := (HO.out.lt _ e).1; simp at this)
            have hr := ((HR.out.low (p := ⟨w.heap.size + 1, 0, none⟩) (by show w.heap.size + 1 < W1.heap.size; omega) (.slice av 2 cv)).low (p := ⟨w.heap.size + 1, 1, none⟩) (by show w.heap.size + 1 < W1.heap.size; omega) (.slice arv nrv crv)).isRules
            rw [HTI.out] at hr
            refine bodyPost_ret (v := .agg #[.slice av 2 cv, .slice arv nrv crv]) (by simp [results, Tryz.results9, go_sem, s0, s1]) rfl ⟨_, _, rfl, ⟨isVars_of hv.reads, hr⟩, ext_st (ext_st HX1.out (p := ⟨w.heap.size + 1, 0, none⟩) (by show w.heap.size ≤ w.heap.size + 1; omega) _) (p := ⟨w.heap.size + 1, 1, none⟩) (by show w.heap.size ≤ w.heap.size + 1; omega) _⟩
          · have hiI : ¬ (i : Int) < (d.rules.length : Int) := by omega
            clear hB hO hR hki hi hxi hir hx1
            go_wp2
            have hz0 := blk_set (blk_set HMB.out.r (i := 0) (.slice av 2 cv)) (i := 1) (.slice arv nrv crv)
            have s0 := blk_cell hz0 (i := 0) (v := .slice av 2 cv) rfl
            have s1 := blk_cell hz0 (i := 1) (v := .slice arv nrv crv) rfl
            have hv := own_setCell (own_setCell HO.out (p := ⟨w.heap.size + 1, 0, none⟩) (.slice av 2 cv) (fun e => by have := (HO.out.lt _ e).1; simp at this)) (p := ⟨w.heap.size + 1, 1, none⟩) (.slice arv nrv crv) (fun e => by have := (HO.out.lt _ e).1; simp at this)
            have hr := ((HR.out.low (p := ⟨w.heap.size + 1, 0, none⟩) (by show w.heap.size + 1 < W1.heap.size; omega) (.slice av 2 cv)).low (p := ⟨w.heap.size + 1, 1, none⟩) (by show w.heap.size + 1 < W1.heap.size; omega) (.slice arv nrv crv)).isRules
            rw [HTI.out] at hr
            refine bodyPost_ret (v := .agg #[.slice av 2 cv, .slice arv nrv crv]) (by simp [results, Tryz.results9, go_sem, s0, s1]) rfl ⟨_, _, rfl, ⟨isVars_of hv.reads, hr⟩, ext_st (ext_st HX1.out (p := ⟨w.heap.size + 1, 0, none⟩) (by show w.heap.size ≤ w.heap.size + 1; omega) _) (p := ⟨w.heap.size + 1, 1, none⟩) (by show w.heap.size ≤ w.heap.size + 1; omega) _⟩
end Go.Proofs.YtfcaomejbcjfgaaGreatDoor
