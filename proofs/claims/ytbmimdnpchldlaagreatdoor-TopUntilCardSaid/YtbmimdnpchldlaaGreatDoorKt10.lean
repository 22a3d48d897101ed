/- Several texts in one: MdI; MdB; MdD; Shut; MdF; SortP; SrtI. No condition. -/
import Derived.Test.YtbmimdnpchldlaaGreatDoorKt9
import Derived.Outline
import Derived.IntWalk
import Derived.Deep.LoopGhost
import Derived.Deep.Cut
import Derived.Deep.DeepCutAuto
import Derived.Deep.RegionLaw
import Derived.Test.YtbmimdnpchldlaaGreatDoorKt5
import Derived.Test.YtbmimdnpchldlaaGreatDoorKt1
import Derived.Laws.IdiomStrings
import Derived.Test.YtbmimdnpchldlaaGreatDoorKt3
import Derived.Deep.QuietTactic
import Derived.BigQuiet
import Derived.Test.YtbmimdnpchldlaaGreatDoorRows
import Derived.Test.YtbmimdnpchldlaaGreatDoorShelf
import Derived.Sort.OwnSortedInts
namespace Go.Proofs.YtbmimdnpchldlaaGreatDoor
open Go.RowKit

def Dn.nmA (i : Nat) : ByteArray := if i = 0 then nmX else nmY
def Dn.sA (d : Dn) (i : Nat) : Int := if i = 0 then d.s0 else d.s1
def Dn.lA (d : Dn) (i : Nat) : Int := if i = 0 then d.l0 else d.l1
def Dn.iA (d : Dn) (i : Nat) : Int := if i = 0 then d.i0 else d.i1
theorem Dn.take_vars (d : Dn) {i : Nat} (h : i < 2) : d.vars.take (i + 1) = d.vars.take i ++ [dVar (Dn.nmA i) (d.sA i) (d.lA i) (d.iA i)] := by
  have : i = 0 ∨ i = 1 := by omega
  rcases this with rfl | rfl <;> rfl

def dnc (d : Dn) (rv : Value) : Array Value := #[.int .i64 d.s0, .int .i64 d.s1, .int .i64 d.l0, .int .i64 d.l1, .int .i64 d.i0, .int .i64 d.i1, rv]

/-- The blocks that Model keeps while it works. -/
structure MB (w : World) (d : Dn) (pv : Value) (wr : World) (vv rv : Value) : Prop where
  e : Ext w wr
  sz : w.heap.size + 4 ≤ wr.heap.size
  a : wr.heap[w.heap.size]? = some (.cells (dnc d pv) 25 (0, 0))
  r : wr.heap[w.heap.size + 1]? = some (.cells #[.slice none 0 0, .slice none 0 0] 31 (0, 0))
  m : wr.heap[w.heap.size + 1 + 1]? = some (.cells #[vv, rv] 31 (0, 0))
  n : wr.heap[w.heap.size + 1 + 1 + 1]? = some (.cells #[.string nmX, .string nmY] 9 (0, 0))

theorem MB.ext {w : World} {d : Dn} {pv : Value} {wr w' : World} {vv rv : Value} (h : MB w d pv wr vv rv) (hE : Ext wr w') : MB w d pv w' vv rv :=
  ⟨h.e.trans hE, Nat.le_trans h.sz hE.size, blk_ext h.a hE, blk_ext h.r hE, blk_ext h.m hE, blk_ext h.n hE⟩
theorem MB.grown {w : World} {d : Dn} {pv : Value} {wr w' : World} {vv rv : Value} {row : Option Nat} (h : MB w d pv wr vv rv) (hg : wr.grownBy w' row) (hr : ∀ b, row = some b → w.heap.size + 4 ≤ b) : MB w d pv w' vv rv := by
  have hn : ∀ k, k < 4 → some (w.heap.size + k) ≠ row := fun k hk e => by have := hr _ e.symm; omega
  exact ⟨Below.grown h.e hg h.e.size (fun b hb => by have := hr b hb; omega), Nat.le_trans h.sz hg.size, blk_grown h.a hg (hn 0 (by omega)), blk_grown h.r hg (hn 1 (by omega)), blk_grown h.m hg (hn 2 (by omega)), blk_grown h.n hg (hn 3 (by omega))⟩
theorem MB.setV {w : World} {d : Dn} {pv : Value} {wr : World} {vv rv : Value} (h : MB w d pv wr vv rv) (v : Value) : MB w d pv (wr.setCell ⟨w.heap.size + 1 + 1, 0, none⟩ v) v rv :=
  ⟨ext_st h.e (by show w.heap.size ≤ w.heap.size + 1 + 1; omega) v, by have := h.sz; simpa using this, blk_far h.a (by show w.heap.size + 1 + 1 ≠ w.heap.size; omega) v, blk_far h.r (by show w.heap.size + 1 + 1 ≠ w.heap.size + 1; omega) v, blk_set h.m v, blk_far h.n (by show w.heap.size + 1 + 1 ≠ w.heap.size + 1 + 1 + 1; omega) v⟩
theorem MB.setR {w : World} {d : Dn} {pv : Value} {wr : World} {vv rv : Value} (h : MB w d pv wr vv rv) (v : Value) : MB w d pv (wr.setCell ⟨w.heap.size + 1 + 1, 1, none⟩ v) vv v :=
  ⟨ext_st h.e (by show w.heap.size ≤ w.heap.size + 1 + 1; omega) v, by have := h.sz; simpa using this, blk_far h.a (by show w.heap.size + 1 + 1 ≠ w.heap.size; omega) v, blk_far h.r (by show w.heap.size + 1 + 1 ≠ w.heap.size + 1; omega) v, blk_set h.m v, blk_far h.n (by show w.heap.size + 1 + 1 ≠ w.heap.size + 1 + 1 + 1; omega) v⟩

theorem vrc_one (v : Vr) : ∀ u ∈ vrc v, u.oneCell' = true := by
  intro u hu
  simp only [vrc, List.mem_cons, List.not_mem_nil, or_false] at hu
  rcases hu with rfl | rfl | rfl | rfl <;> rfl

set_option maxRecDepth 100000 in
set_option maxHeartbeats 8000000 in
theorem model_any (pv : Value) (d : Dn) (w : World) (hpl : IsPlans w pv d.rules) (hd : DnI d) :
    Calls Tryz.prog 38 #[.agg (dnc d pv)] w fun e w' => ∃ vv rv, e = .returned (.agg #[vv, rv]) ∧ IsMd w' vv rv d.md ∧ Ext w w' := by
  obtain ⟨ap, cp, rfl, hpm, bp, op, hp1, hp2⟩ := hpl.at
  unfold maxLen at hpm
  have HP1 := Lib.hid hp1
  have HP2 := Lib.hid hp2
  have HPI := Lib.hid hd.rules
  have HSI := Lib.hid (show ∀ i, I64 (d.sA i) from fun i => by unfold Dn.sA; split; exact hd.s0; exact hd.s1)
  have HLI := Lib.hid (show ∀ i, I64 (d.lA i) from fun i => by unfold Dn.lA; split; exact hd.l0; exact hd.l1)
  have HII := Lib.hid (show ∀ i, I64 (d.iA i) from fun i => by unfold Dn.iA; split; exact hd.i0; exact hd.i1)
  clear hpl hp1 hp2 hd
  obtain ⟨pv, hpv⟩ : ∃ pv, pv = Value.slice ap d.rules.length cp := ⟨_, rfl⟩
  rw [← hpv]
  have HPV := Lib.hid hpv
  have HB0 := Lib.hid (show MB w d pv ((((w.alloc (.cells (dnc d pv) 25)).alloc (.cells #[.slice none 0 0, .slice none 0 0] 31)).alloc (.cells #[.slice none 0 0, .slice none 0 0] 31)).alloc (.cells #[.string nmX, .string nmY] 9)) (.slice none 0 0) (.slice none 0 0) from by
    have e0 := blk_new w (Obj.cells (dnc d pv) 25)
    have e1 := blk_new (w.alloc (.cells (dnc d pv) 25)) (Obj.cells #[.slice none 0 0, .slice none 0 0] 31)
    have e2 := blk_new ((w.alloc (.cells (dnc d pv) 25)).alloc (.cells #[.slice none 0 0, .slice none 0 0] 31)) (Obj.cells #[.slice none 0 0, .slice none 0 0] 31)
    have e3 := blk_new (((w.alloc (.cells (dnc d pv) 25)).alloc (.cells #[.slice none 0 0, .slice none 0 0] 31)).alloc (.cells #[.slice none 0 0, .slice none 0 0] 31)) (Obj.cells #[.string nmX, .string nmY] 9)
    rw [show ∀ (a : World) (o : Obj), (a.alloc o).heap.size = a.heap.size + 1 from fun a o => by simp] at e1 e2 e3
    rw [show ∀ (a : World) (o : Obj), (a.alloc o).heap.size = a.heap.size + 1 from fun a o => by simp] at e2 e3
    rw [show ∀ (a : World) (o : Obj), (a.alloc o).heap.size = a.heap.size + 1 from fun a o => by simp] at e3
    have x : ∀ (a : World) (o : Obj), Ext a (a.alloc o) := fun a o => ext_al (Ext.refl a) o
    exact ⟨(((x _ _).trans (x _ _)).trans (x _ _)).trans (x _ _), by simp, blk_ext (blk_ext (blk_ext e0 (x _ _)) (x _ _)) (x _ _), blk_ext (blk_ext e1 (x _ _)) (x _ _), blk_ext e2 (x _ _), e3⟩)
  clear hpv
  simp only [dnc] at HB0 ⊢
  go_enter Tryz.func38, Tryz.ntmps38
  go_wp2_with fail
  obtain ⟨W0, hW0⟩ : ∃ W0, W0 = ((((w.alloc (.cells #[.int .i64 d.s0, .int .i64 d.s1, .int .i64 d.l0, .int .i64 d.l1, .int .i64 d.i0, .int .i64 d.i1, pv] 25)).alloc (.cells #[.slice none 0 0, .slice none 0 0] 31)).alloc (.cells #[.slice none 0 0, .slice none 0 0] 31)).alloc (.cells #[.string nmX, .string nmY] 9)) := ⟨_, rfl⟩
  rw [← hW0] at HB0 ⊢
  clear hW0
  have hB0s := HB0.out.sz
  have HO0 := Lib.hid (show W0.ownsRow (w.heap.size + 4) 89 4 (.slice none 0 0) 0 [] from World.ownsRow_nil _ _ _ _)
  go_loopg [5] 2 (fun k x wr => ∃ (i : Nat) (vv : Value), k + i = 2 ∧ x = .int .i64 (i : Int) ∧ MB w d pv wr vv (.slice none 0 0) ∧ wr.ownsRow (w.heap.size + 4) 89 4 vv i ((d.vars.take i).flatMap vrc))
  case atStart => exact ⟨0, .slice none 0 0, by omega, by go_num, HB0.out, HO0.out⟩
  case round =>
    obtain ⟨i, vv, hki, rfl, hB, hO⟩ := hrel
    clear HB0 HO0 hB0s
    have HKI := Lib.hid hki
    have HB := Lib.hid hB
    have HO := Lib.hid hO
    have hBs := hB.sz
    by_cases hi : i < 2
    · have hiI : (i : Int) < 2 := by omega
      have hi0 : (0 : Int) ≤ (i : Int) := by omega
      have hii : i = 0 ∨ i = 1 := by omega
      have aS : wr.cell? ⟨w.heap.size, i, none⟩ = some (.int .i64 (d.sA i)) := blk_cell hB.a (by rcases hii with rfl | rfl <;> rfl)
      have aL : wr.cell? ⟨w.heap.size, 2 + i, none⟩ = some (.int .i64 (d.lA i)) := blk_cell hB.a (by rcases hii with rfl | rfl <;> rfl)
      have aI : wr.cell? ⟨w.heap.size, 4 + i, none⟩ = some (.int .i64 (d.iA i)) := blk_cell hB.a (by rcases hii with rfl | rfl <;> rfl)
      have aN : wr.cell? ⟨w.heap.size + 1 + 1 + 1, i, none⟩ = some (.string (Dn.nmA i)) := blk_cell hB.n (by rcases hii with rfl | rfl <;> rfl)
      have aM : wr.cell? ⟨w.heap.size + 1 + 1, 0, none⟩ = some vv := blk_cell hB.m rfl
      obtain ⟨l1, l2⟩ := HLI.out i
      obtain ⟨s1, s2⟩ := HSI.out i
      obtain ⟨i1, i2⟩ := HII.out i
      have hb1 := pk_bd (d.lA i) 3 (by omega)
      have hb2 := pk_bd (d.sA i) 4 (by omega)
      have HTK := Lib.hid (d.take_vars hi)
      obtain ⟨av, cv, rfl, _⟩ := hO.row
      clear hB hO hki hii
      unfold dVar at HTK
      generalize Dn.nmA i = nm at *
      go_wp2_with fail
      refine (picked_any (d.lA i) 3 _ l1 l2 (by omega) (by omega)).mono ?_
      rintro e w' ⟨rfl, rfl⟩
      go_wp2_with fail
      refine (picked_any (d.sA i) 4 _ s1 s2 (by omega) (by omega)).mono ?_
      rintro e w' ⟨rfl, rfl⟩
      have HPK := Lib.hid fun wx => picked_any (d.iA i) (pk (d.sA i) 4 + 1) wx i1 i2 (by omega) (by omega)
      have hb3 := pk_bd (d.iA i) (pk (d.sA i) 4 + 1) (by omega)
      generalize pk (d.iA i) (pk (d.sA i) 4 + 1) = p3 at *
      generalize pk (d.lA i) 3 = p1 at *
      generalize pk (d.sA i) 4 = p2 at *
      clear aS aL
      go_upto_region 8 with fail
      have t1 : IntKind.i64.wrap (p1 - 1 + p2 - (p1 - 1)) = p2 := (IntWalk.i64_in _ (by omega)).trans (by omega)
      have t2 : IntKind.i64.wrap (p2 + 1) = p2 + 1 := IntWalk.i64_in _ (by omega)
      have t3 : IntKind.i64.wrap (p1 - 1 + p3) = p1 - 1 + p3 := IntWalk.i64_in _ (by omega)
      have HO5 := Lib.hid fun (o : Obj) => own_ext HO.out (Below.drew (ext_al (Ext.refl wr) o))
      have HB5 := Lib.hid fun (o : Obj) => HB.out.ext (Below.drew (ext_al (Ext.refl wr) o))
      have hi63 : i + 1 ≤ 9223372036854775807 := by omega
      have cM5 := fun (o : Obj) => blk_cell (HB5.out o).m (i := 0) rfl
      have aM5 : (wr.alloc (Obj.cells #[.string nm, .int .i64 (p1 - 1), .int .i64 (p1 - 1 + p2), .int .i64 (p1 - 1 + p3)] 89)).cell? ⟨w.heap.size + 1 + 1, 0, none⟩ = some (.slice av i cv) := cM5 _
      clear cM5
      go_region_law (first
        | (refine step_append rfl rfl Tryz.slVars (w.heap.size + 4) (by rfl) (HO5.out _) (by rfl) ((Row.newK _ _ 4 _ _ rfl rfl).ext (Below.drew (Ext.refl _))) (by intro u hu; simp only [List.mem_cons, List.not_mem_nil, or_false] at hu; rcases hu with rfl | rfl | rfl | rfl <;> rfl) (by unfold maxLen; omega) (by omega) (by simp; omega) ?_
           intro v6 w6 hown6 hg6 hb6 _
           obtain ⟨a6, c6, rfl, _⟩ := hown6.row
           have hB6 := (HB5.out _).grown hg6 (fun b hb => (HO.out.lt b hb).1)
           have cM6 := blk_cell hB6.m (i := 0) rfl
           have fM6 := blk_free hB6.m 0
           have HB6 := Lib.hid hB6
           have HO6 := Lib.hid hown6
           clear hB6 hown6 hg6 hb6)
        | (go_simp
           go_at_call 59
           refine (HPK.out _).mono ?_
           rintro e wq ⟨rfl, rfl⟩))
      all_goals
        have HM7 := Lib.hid (HB6.out.setV (.slice a6 (i + 1) c6))
        have HO7 := Lib.hid (own_setCell HO6.out (p := ⟨w.heap.size + 1 + 1, 0, none⟩) (.slice a6 (i + 1) c6) (fun e => by have := (HO6.out.lt _ e).1; simp at this; omega))
        clear aM5 aM aI aN cM6 fM6 HB6 HO6 HPK HB5 HO5 t1 t2 t3
        generalize w6.setCell ⟨w.heap.size + 1 + 1, 0, none⟩ (.slice a6 (i + 1) c6) = w7 at *
        go_wp2_with fail
        go_roundg (gk - 1)
        case measure => have := HKI.out; omega
        case rel => exact ⟨i + 1, _, by have := HKI.out; omega, by go_num, HM7.out, by
          rw [HTK.out, List.flatMap_append]
          simpa [vrc] using HO7.out⟩
    · have hiI : ¬ (i : Int) < 2 := by omega
      obtain rfl : i = 2 := by omega
      obtain ⟨av, cv, rfl, _⟩ := hO.row
      have hv2 : d.vars.take 2 = d.vars := rfl
      rw [hv2] at HO
      have hR0 := RMem.nil wr wr.heap.size (Nat.le_refl _)
      have HR0 := Lib.hid hR0
      obtain ⟨W1, hW1⟩ : ∃ W1, W1 = wr := ⟨_, rfl⟩
      have hBW : w.heap.size + 4 ≤ W1.heap.size := by rw [hW1]; exact hBs
      have HVB := Lib.hid (show ∀ b, (Value.slice av 2 cv).ownBlock = some b → b < W1.heap.size from fun b hb => by rw [hW1]; exact (HO.out.lt b hb).2)
      rw [← hW1] at HR0
      have HW1 := Lib.hid hW1
      have aA : wr.cell? ⟨w.heap.size, 6, none⟩ = some pv := blk_cell hB.a rfl
      clear hB hO hki hR0 hW1 hv2
      go_wp2_with fail
      clear aA
      go_loopg [8] d.rules.length (fun k x wr => ∃ (i : Nat) (rv : Value) (τ : Nat → Nat), k + i = d.rules.length ∧ i ≤ 5 ∧ x = .int .i64 (i : Int) ∧ MB w d pv wr (.slice av 2 cv) rv ∧ wr.ownsRow (w.heap.size + 4) 89 4 (.slice av 2 cv) 2 (d.vars.flatMap vrc) ∧ RMem τ W1.heap.size wr rv ((d.rules.take i).map dRule))
      case atStart => exact ⟨0, _, _, by omega, by omega, by go_num, HB.out, HO.out, by have h := HR0.out; rw [HW1.out] at h ⊢; exact h⟩
      case round =>
        obtain ⟨i, rv, τ, hki, hi5, rfl, hB, hO, hR⟩ := hrel
        clear HB HO HR0 HW1
        have HKI := Lib.hid hki
        have HB := Lib.hid hB
        have HO := Lib.hid hO
        have HR := Lib.hid hR
        have hBs := hB.sz
        have hRs := hR.size
        have aA : wr.cell? ⟨w.heap.size, 6, none⟩ = some pv := blk_cell hB.a rfl
        obtain rfl := HPV.out
        by_cases hi : i < d.rules.length ∧ i < 5
        · have hil := hi.1
          have hiI : (i : Int) < (d.rules.length : Int) := by omega
          have hi5I : (i : Int) < 5 := by omega
          have hi0 : (0 : Int) ≤ (i : Int) := by omega
          obtain rfl := HP1.out (by omega)
          obtain ⟨g, s, c0, c1, c2, c3, hg, hs⟩ := HP2.out i hil
          have hpi := HPI.out d.rules[i] (by simp)
          obtain ⟨pv1, pv2⟩ := hpi.var
          have HTR := Lib.hid fun wx (hx : Ext w wx) => mkTruth g d.rules[i].guard 2 wx (ops_ext hg hx) hpi.guard (by omega)
          have HNU := Lib.hid fun wx (hx : Ext w wx) => mkNumber s d.rules[i].value 2 wx (ops_ext hs hx) hpi.value (by omega)
          have c0 := cell_later hB.e c0
          have c1 := cell_later hB.e c1
          have c2 := cell_later hB.e c2
          have c3 := cell_later hB.e c3
          obtain ⟨ag, cg, rfl, _⟩ := hg
          obtain ⟨as', cs', rfl, _⟩ := hs
          have hx0 := ext_al (Ext.refl wr) (Obj.cells #[.slice ag d.rules[i].guard.length cg, .int .i64 d.rules[i].var, .slice as' d.rules[i].value.length cs', .bool d.rules[i].both] 138)
          have hb0 := blk_new wr (Obj.cells #[.slice ag d.rules[i].guard.length cg, .int .i64 d.rules[i].var, .slice as' d.rules[i].value.length cs', .bool d.rules[i].both] 138)
          have HBP := Lib.hid hb0
          have HX0 := Lib.hid hx0
          have HXW := Lib.hid (hB.e.trans hx0)
          have g0 := blk_cell hb0 (i := 0) rfl
          have HTK := Lib.hid (show (d.rules.take (i + 1)).map dRule = (d.rules.take i).map dRule ++ [dRule d.rules[i]] by rw [List.take_succ_eq_append_getElem hil, List.map_append]; rfl)
          have HDR := Lib.hid (show dRule d.rules[i] = ⟨truO d.rules[i].guard 2, (pk d.rules[i].var 2, numO d.rules[i].value 2) :: (if d.rules[i].both = true then [(1 - pk d.rules[i].var 2, .n0 2 (pk d.rules[i].var 2))] else [])⟩ from rfl)
          generalize dRule d.rules[i] = dr at *
          generalize d.rules[i].guard = rg at *
          generalize d.rules[i].var = rvar at *
          generalize d.rules[i].value = rval at *
          generalize d.rules[i].both = rboth at *
          generalize truO rg 2 = T at *
          generalize numO rval 2 = V at *
          clear hB hO hR hx0 hb0 hki hi hpi
          go_wp2_with fail
          generalize wr.alloc (Obj.cells #[.slice ag rg.length cg, .int .i64 rvar, .slice as' rval.length cs', .bool rboth] 138) = W2 at *
          refine (HTR.out _ HXW.out).mono ?_
          rintro e w3 ⟨tv, rfl, hto, hE3⟩
          obtain ⟨at', ct, rfl, _⟩ := hto.row
          obtain ⟨nT, hnT⟩ : ∃ n, T.flat.length = n := ⟨_, rfl⟩
          rw [hnT] at hto ⊢
          have HNT := Lib.hid hnT
          have hx4 := ext_al (Ext.refl w3) (Obj.cells #[.slice at' nT ct, .slice none 0 0] 86)
          have hb4 := blk_new w3 (Obj.cells #[.slice at' nT ct, .slice none 0 0] 86)
          have g1 := blk_cell (blk_ext (blk_ext HBP.out hE3) hx4) (i := 1) rfl
          have HBP4 := Lib.hid (blk_ext (blk_ext HBP.out hE3) hx4)
          have HX4 := Lib.hid ((HX0.out.trans hE3).trans hx4)
          have HB4 := Lib.hid hb4
          have HTO := Lib.hid (own_ext hto hx4)
          have HE3 := Lib.hid (hE3.trans hx4)
          have HTL := Lib.hid (show ∀ b, (Value.slice at' nT ct).ownBlock = some b → b < w3.heap.size from fun b hb => (hto.lt b hb).2)
          have h23 := hE3.size
          have hr2 := HX0.out.size
          have hPlt := blk_lt HBP.out
          have hR4 := hx4.size
          clear hx4 hb4 hto hE3 hnT g0 HBP c0 c1 c2 c3 HTR
          have hpk := pk_bd rvar 2 (by omega)
          go_wp2_with fail
          obtain ⟨w3h, hw3h⟩ : ∃ n, w3.heap.size = n := ⟨_, rfl⟩
          rw [hw3h] at HB4 h23 hR4 HTL ⊢
          generalize w3.alloc (Obj.cells #[.slice at' nT ct, .slice none 0 0] 86) = W4 at *
          have hW4 := blk_lt HB4.out
          clear hw3h
          refine (picked_any rvar 2 _ pv1 pv2 (by omega) (by omega)).mono ?_
          rintro e w' ⟨rfl, rfl⟩
          generalize pk rvar 2 = kv at *
          clear g1
          go_upto_region 15 with fail
          have g2 : W4.cell? ⟨wr.heap.size, 2, none⟩ = some (.slice as' rval.length cs') := blk_cell HBP4.out rfl
          have r1 : W4.cell? ⟨w3h, 1, none⟩ = some (.slice none 0 0) := blk_cell HB4.out rfl
          have fr1 : W4.frozen? ⟨w3h, 1, none⟩ = false := blk_free HB4.out 1
          have HXW4 := Lib.hid (HB.out.e.trans HX4.out)
          obtain ⟨nV, hnV⟩ : ∃ n, V.flat.length = n := ⟨_, rfl⟩
          rw [hnV] at HNU
          have HNV := Lib.hid hnV
          clear hnV
          go_cut [11] (fun s11 wx => s11 = .int .i64 kv ∧ ∃ (K cn a6 c6 : _) (an : Option Addr), wx.heap[w3h]? = some (.cells #[.slice at' nT ct, .slice a6 1 c6] 86 (0, 0)) ∧ Below w3h W4 wx ∧ W4.heap.size ≤ K ∧ K ≤ wx.heap.size ∧
            wx.ownsRow K 141 2 (.slice a6 1 c6) 1 [.int .i64 kv, .slice an nV cn] ∧ wx.ownsRow W4.heap.size 75 2 (.slice an nV cn) nV (V.flat.flatMap opc) ∧ (∀ b, (Value.slice an nV cn).ownBlock = some b → b < K))
          case first =>
            go_region_law (first
              | (refine step_append rfl rfl Tryz.slSets (World.heap wn).size (by rfl) (World.ownsRow_nil _ _ _ _) (by rfl) (by first | exact Row.newK _ _ 2 _ _ rfl rfl | exact (Row.newK _ _ 2 _ _ rfl rfl).ext (Below.drew (Ext.refl _))) (by intro u hu; simp only [List.mem_cons, List.not_mem_nil, or_false] at hu; rcases hu with rfl | rfl <;> rfl) (by unfold maxLen; omega) (by omega) (by simp) ?_
                 intro v6 w6 hown6 hg6 hb6 _
                 obtain ⟨a6, c6, rfl, _⟩ := hown6.row
                 have x6 := (ext_al (Ext.refl wn) (Obj.cells #[.int .i64 kv, .slice an nV cn] 141)).grown hg6 (by simp) (by simp [Value.ownBlock])
                 have hR6 := blk_ext HRN.out x6
                 have cR6 := blk_cell hR6 (i := 1) rfl
                 have fR6 := blk_free hR6 1
                 have HR6 := Lib.hid hR6
                 have HX6 := Lib.hid x6
                 have HO6 := Lib.hid hown6
                 clear x6 hR6 hown6 hg6 hb6)
              | (go_simp
                 go_at_call 71
                 refine (HNU.out _ (Below.drew HXW4.out)).mono ?_
                 rintro e wn ⟨nv, rfl, hno, hEn⟩
                 obtain ⟨an, cn, rfl, _⟩ := hno.row
                 have hRn := blk_ext (blk_ext HB4.out (Below.drew (Ext.refl _))) hEn
                 have cRn := blk_cell hRn (i := 1) rfl
                 have fRn := blk_free hRn 1
                 have cRa := blk_cell (blk_ext hRn (ext_al (Ext.refl wn) (Obj.cells #[.int .i64 kv, .slice an nV cn] 141))) (i := 1) rfl
                 have HRN := Lib.hid hRn
                 have HNO := Lib.hid hno
                 have HEN := Lib.hid (Ext.trans (Below.drew (Ext.refl W4)) hEn)
                 clear hRn hno hEn))
            all_goals
              go_wp2_with fail
              go_meet
              have hsz : W4.heap.size ≤ wn.heap.size := HEN.out.size
              have hRW : w3h < W4.heap.size := hW4
              have hne : ∀ b, (Value.slice a6 1 c6).ownBlock = some b → b ≠ w3h := fun b hb => by have := (HO6.out.lt b hb).1; omega
              have hne2 : ∀ b, (Value.slice an nV cn).ownBlock = some b → b ≠ w3h := fun b hb => by have := (HNO.out.lt b hb).1; have e : W4.drew.heap.size = W4.heap.size := rfl; omega
              exact ⟨rfl, wn.heap.size, cn, a6, c6, an, blk_set HR6.out _, Below.setCell (Below.mono (HEN.out.trans HX6.out) (show w3h ≤ W4.heap.size from Nat.le_of_lt hRW)) (Nat.le_refl _) _, hsz, by simpa using HX6.out.size,
                own_setCell HO6.out _ (fun e => hne _ e rfl), own_setCell (own_ext HNO.out HX6.out) _ (fun e => hne2 _ e rfl), fun b hb => (HNO.out.lt b hb).2⟩
          case rest =>
            obtain ⟨rfl, K, cn, a6, c6, an, hR6, hX6, hK1, hK2, hs6, hv6, hvK⟩ := hcut
            have HR6 := Lib.hid hR6
            have hXr : Ext wr wc := Below.trans HX4.out (Below.mono hX6 (by omega))
            have HXR := Lib.hid hXr
            have HTM := Lib.hid (show OwnTm wr.heap.size wc (.slice at' nT ct) T from by
              unfold OwnTm
              rw [HNT.out]
              exact own_down (own_below HTO.out hX6 HTL.out) (by omega))
            have HVM := Lib.hid (show OwnTm wr.heap.size wc (.slice an nV cn) V from by
              unfold OwnTm
              rw [HNV.out]
              exact own_down hv6 (by omega))
            have HS6 := Lib.hid hs6
            have HVK := Lib.hid hvK
            have HV6 := Lib.hid hv6
            have HBP6 := Lib.hid (blk_below HBP4.out hX6 (by omega))
            have g3 : wc.cell? ⟨wr.heap.size, 3, none⟩ = some (.bool rboth) := blk_cell HBP6.out rfl
            obtain ⟨css, k1, k2, k3, k4⟩ := HR.out.row
            obtain ⟨arv, crv, hrvv, _⟩ := k3.own.row
            obtain ⟨nR, hnR⟩ : ∃ n, ((d.rules.take i).map dRule).length = n := ⟨_, rfl⟩
            have hnR5 : nR ≤ 5 := by rw [← hnR]; simp; omega
            rw [hnR] at hrvv
            subst hrvv
            have K1 := Lib.hid k1
            have K2 := Lib.hid k2
            have K3 := Lib.hid k3
            have K4 := Lib.hid k4
            have KO := Lib.hid k3.own
            rw [hnR] at KO
            have HNR := Lib.hid hnR
            clear hnR
            have fr1 := blk_free hR6 1
            have rr1 : wc.cell? ⟨w3h, 1, none⟩ = some (.slice a6 1 c6) := blk_cell hR6 rfl
            have hwcs := HXR.out.size
            clear hR6 hX6 hs6 hv6 hvK hXr k1 k2 k3 k4 r1
            cases rboth
            · have HSS := Lib.hid (show OwnSets wr.heap.size wc (.slice a6 1 c6) dr.sets from by
                rw [HDR.out]
                exact ownSets_one (own_down HS6.out (by omega)) HVM.out)
              have HTT := Lib.hid (show OwnTm wr.heap.size wc (.slice at' nT ct) dr.guard from by rw [HDR.out]; exact HTM.out)
              clear HDR rr1
              have r0 : (wc).cell? ⟨w3h, 0, none⟩ = some (.slice at' nT ct) := blk_cell HR6.out rfl
              have r1 : (wc).cell? ⟨w3h, 1, none⟩ = some (Value.slice a6 1 c6) := blk_cell HR6.out rfl
              have m1 : (wc).cell? ⟨w.heap.size + 1 + 1, 1, none⟩ = some (.slice arv nR crv) := blk_cell (HB.out.ext HXR.out).m rfl
              have HRO := Lib.hid fun (o : Obj) => own_ext KO.out (HXR.out.trans (ext_al (Ext.refl (wc)) o))
              have hwz := HXR.out.size
              go_wp2_with (at_builtin; go_must (refine wpl_append rfl rfl Tryz.slRules W1.heap.size rfl (HRO.out _) rfl (Row.newK _ _ 2 _ _ rfl rfl) (by intro u hu; simp only [List.mem_cons, List.not_mem_nil, or_false] at hu; rcases hu with rfl | rfl <;> rfl) (by unfold maxLen; omega) (by omega) (by simp; omega) ?_))
              intro v8 w8 hown8 hg8 hb8 _
              obtain ⟨a8, c8, rfl, _⟩ := hown8.row
              have hxz := ext_al (Ext.refl (wc)) (Obj.cells #[.slice at' nT ct, Value.slice a6 1 c6] 86)
              obtain ⟨τ', hR8⟩ := RMem.push HR.out (HXR.out.trans hxz) (HTT.out.ext hxz) (HSS.out.ext hxz) K1.out K2.out K3.out K4.out (by rw [HNR.out]; exact hown8) hg8 (by rcases hb8 with h | h; exact .inl h; right; rw [h]; simp)
              have hB8 := (HB.out.ext (HXR.out.trans hxz)).grown hg8 (fun b hb => by have := (K3.out.own.lt b hb).1; omega)
              have hO8 := own_grown (own_ext HO.out (HXR.out.trans hxz)) hg8 (by
                by_cases e : (Value.slice av 2 cv).ownBlock = none
                · exact .inl e
                · refine .inr fun e2 => ?_
                  obtain ⟨b, hb⟩ := Option.ne_none_iff_exists'.1 e
                  have h1 := HVB.out b hb
                  have h2 := (K3.out.own.lt b (by rw [← e2]; exact hb)).1
                  omega)
              have cM8 := blk_cell hB8.m (i := 1) rfl
              have fM8 := blk_free hB8.m 1
              have HB9 := Lib.hid (hB8.setR (.slice a8 (nR + 1) c8))
              have HR9 := Lib.hid (hR8.low (p := ⟨w.heap.size + 1 + 1, 1, none⟩) (by show w.heap.size + 1 + 1 < W1.heap.size; omega) (.slice a8 (nR + 1) c8))
              have HO9 := Lib.hid (own_setCell hO8 (p := ⟨w.heap.size + 1 + 1, 1, none⟩) (.slice a8 (nR + 1) c8) (fun e => by have := (hO8.lt _ e).1; simp at this; omega))
              clear r0 r1 m1 HRO hown8 hg8 hb8 hxz hR8 hB8 hO8
              go_wp2_with fail
              go_roundg (gk - 1)
              case measure => have := HKI.out; omega
              case rel => exact ⟨i + 1, _, τ', by have := HKI.out; omega, by omega, by go_num, HB9.out, HO9.out, by rw [HTK.out]; exact HR9.out⟩
            · have hv2o : ∀ (o : Obj), ((wc.alloc (Obj.cells #[.int .i64 2, .int .i64 kv] 75)).alloc o).ownsRow wc.heap.size 75 2 (.slice (some ⟨wc.heap.size, 0, none⟩) 1 1) 1 [.int .i64 2, .int .i64 kv] := fun o => (World.ownsRow_lit (base := wc.heap.size) (e := 75) (size := 2) wc #[.int .i64 2, .int .i64 kv] 1 (Nat.le_refl _) (by unfold maxLen; omega) rfl).alloc o
              have HS7 := Lib.hid fun (o1 o2 : Obj) => own_ext HS6.out ((ext_al (Ext.refl wc) o1).trans (ext_al (Ext.refl (wc.alloc o1)) o2))
              have m2 : IntKind.i64.wrap (1 - kv) = 1 - kv := IntWalk.i64_in _ (by omega)
              go_wp2_with (at_builtin; go_must (refine wpl_append rfl rfl Tryz.slSets K rfl (HS7.out _ _) rfl (Row.newK _ _ 2 _ _ rfl (by simp)) (by intro u hu; simp only [List.mem_cons, List.not_mem_nil, or_false] at hu; rcases hu with rfl | rfl <;> rfl) (by unfold maxLen; omega) (by omega) (by simp; omega) ?_))
              intro v7 w7 hown7 hg7 hb7 _
              obtain ⟨a7, c7, rfl, _⟩ := hown7.row
              have e2 := (ext_al (Ext.refl wc) (Obj.cells #[.int .i64 2, .int .i64 kv] 75)).trans (ext_al (Ext.refl (wc.alloc (Obj.cells #[.int .i64 2, .int .i64 kv] 75))) (Obj.cells #[.int .i64 (1 - kv), .slice (some ⟨wc.heap.size, 0, none⟩) 1 1] 141))
              have x7 : Below K wc w7 := Below.grown (Below.mono e2 hK2) hg7 (Nat.le_trans hK2 e2.size) (fun b hb => (HS6.out.lt b hb).1)
              have hu2 := own_grown (hv2o _) hg7 (.inr fun e => by
                have h1 := (HS6.out.lt wc.heap.size (by rw [← e]; rfl)).2
                omega)
              have hT7 := own_below HTM.out x7 (fun k hk => by have := HTL.out k hk; omega)
              have hV7 := own_below HVM.out x7 HVK.out
              have hR7 := blk_below HR6.out x7 (by omega)
              have hXr7 : Ext wr w7 := Below.trans HXR.out (Below.mono x7 (by omega))
              have cR7 := blk_cell hR7 (i := 1) rfl
              have fR7 := blk_free hR7 1
              have n1 : ∀ k, (Value.slice at' nT ct).ownBlock = some k → k ≠ w3h := fun k hk => by have := HTL.out k hk; omega
              have n2 : ∀ k, (Value.slice an nV cn).ownBlock = some k → k ≠ w3h := fun k hk => by have := (HV6.out.lt k hk).1; omega
              have n3 : ∀ k, (Value.slice a7 2 c7).ownBlock = some k → k ≠ w3h := fun k hk => by have := (hown7.lt k hk).1; omega
              have HTT := Lib.hid (show OwnTm wr.heap.size (w7.setCell ⟨w3h, 1, none⟩ (.slice a7 2 c7)) (.slice at' nT ct) dr.guard from by
                rw [HDR.out]
                exact own_setCell hT7 _ (fun e => n1 _ e rfl))
              have HSS := Lib.hid (show OwnSets wr.heap.size (w7.setCell ⟨w3h, 1, none⟩ (.slice a7 2 c7)) (.slice a7 2 c7) dr.sets from by
                rw [HDR.out]
                refine ownSets_two (s := (kv, V)) (s' := (1 - kv, .n0 2 kv)) (own_down (own_setCell hown7 _ (fun e => n3 _ e rfl)) (by omega)) ?_ ?_
                · exact own_setCell hV7 _ (fun e => n2 _ e rfl)
                · exact own_down (own_setCell hu2 _ (fun e => by simp [Value.ownBlock] at e; omega)) hwcs)
              have HR8 := Lib.hid (blk_set hR7 (i := 1) (.slice a7 2 c7))
              have HX8 := Lib.hid (ext_st hXr7 (p := ⟨w3h, 1, none⟩) (by show wr.heap.size ≤ w3h; omega) (.slice a7 2 c7))
              clear hown7 hg7 hb7 e2 x7 hu2 hT7 hV7 hR7 hXr7 n1 n2 n3 HDR rr1 fr1 g3 hv2o
              go_upto_region 18 with fail
              generalize w7.setCell ⟨w3h, 1, none⟩ (.slice a7 2 c7) = wz at *
              clear cR7 fR7
              have r0 : (wz).cell? ⟨w3h, 0, none⟩ = some (.slice at' nT ct) := blk_cell HR8.out rfl
              have r1 : (wz).cell? ⟨w3h, 1, none⟩ = some (Value.slice a7 2 c7) := blk_cell HR8.out rfl
              have m1 : (wz).cell? ⟨w.heap.size + 1 + 1, 1, none⟩ = some (.slice arv nR crv) := blk_cell (HB.out.ext HX8.out).m rfl
              have HRO := Lib.hid fun (o : Obj) => own_ext KO.out (HX8.out.trans (ext_al (Ext.refl (wz)) o))
              have hwz := HX8.out.size
              go_wp2_with (at_builtin; go_must (refine wpl_append rfl rfl Tryz.slRules W1.heap.size rfl (HRO.out _) rfl (Row.newK _ _ 2 _ _ rfl rfl) (by intro u hu; simp only [List.mem_cons, List.not_mem_nil, or_false] at hu; rcases hu with rfl | rfl <;> rfl) (by unfold maxLen; omega) (by omega) (by simp; omega) ?_))
              intro v8 w8 hown8 hg8 hb8 _
              obtain ⟨a8, c8, rfl, _⟩ := hown8.row
              have hxz := ext_al (Ext.refl (wz)) (Obj.cells #[.slice at' nT ct, Value.slice a7 2 c7] 86)
              obtain ⟨τ', hR8⟩ := RMem.push HR.out (HX8.out.trans hxz) (HTT.out.ext hxz) (HSS.out.ext hxz) K1.out K2.out K3.out K4.out (by rw [HNR.out]; exact hown8) hg8 (by rcases hb8 with h | h; exact .inl h; right; rw [h]; simp)
              have hB8 := (HB.out.ext (HX8.out.trans hxz)).grown hg8 (fun b hb => by have := (K3.out.own.lt b hb).1; omega)
              have hO8 := own_grown (own_ext HO.out (HX8.out.trans hxz)) hg8 (by
                by_cases e : (Value.slice av 2 cv).ownBlock = none
                · exact .inl e
                · refine .inr fun e2 => ?_
                  obtain ⟨b, hb⟩ := Option.ne_none_iff_exists'.1 e
                  have h1 := HVB.out b hb
                  have h2 := (K3.out.own.lt b (by rw [← e2]; exact hb)).1
                  omega)
              have cM8 := blk_cell hB8.m (i := 1) rfl
              have fM8 := blk_free hB8.m 1
              have HB9 := Lib.hid (hB8.setR (.slice a8 (nR + 1) c8))
              have HR9 := Lib.hid (hR8.low (p := ⟨w.heap.size + 1 + 1, 1, none⟩) (by show w.heap.size + 1 + 1 < W1.heap.size; omega) (.slice a8 (nR + 1) c8))
              have HO9 := Lib.hid (own_setCell hO8 (p := ⟨w.heap.size + 1 + 1, 1, none⟩) (.slice a8 (nR + 1) c8) (fun e => by have := (hO8.lt _ e).1; simp at this; omega))
              clear r0 r1 m1 HRO hown8 hg8 hb8 hxz hR8 hB8 hO8
              go_wp2_with fail
              go_roundg (gk - 1)
              case measure => have := HKI.out; omega
              case rel => exact ⟨i + 1, _, τ', by have := HKI.out; omega, by omega, by go_num, HB9.out, HO9.out, by rw [HTK.out]; exact HR9.out⟩
        · have HMB := Lib.hid hB
          have hxi : i = d.rules.length ∨ i = 5 := by omega
          have HTI := Lib.hid (show (d.rules.take i).map dRule = (d.rules.take 5).map dRule by
            rcases hxi with e | e
            · rw [List.take_of_length_le (by omega), List.take_of_length_le (by omega)]
            · rw [e])
          have r0 : wr.cell? ⟨w.heap.size + 1 + 1, 0, none⟩ = some (.slice av 2 cv) := blk_cell hB.m rfl
          have r1 : wr.cell? ⟨w.heap.size + 1 + 1, 1, none⟩ = some rv := blk_cell hB.m rfl
          have q0 := blk_cell hB.r (i := 0) rfl
          have q1 := blk_cell hB.r (i := 1) rfl
          have fq0 := blk_free hB.r 0
          have fq1 := blk_free hB.r 1
          have hir := hR.isRules
          obtain ⟨arv, nrv, crv, hrv⟩ : ∃ a n c, rv = .slice a n c := by
            obtain ⟨a, c, e⟩ := EachL.val hir
            exact ⟨a, _, c, e⟩
          subst hrv
          have HIR := Lib.hid hir
          have hx1 : Ext w wr := hB.e
          have HX1 := Lib.hid hx1
          by_cases hil : i < d.rules.length
          · have hiI : (i : Int) < (d.rules.length : Int) := by omega
            have hi5I : ¬ (i : Int) < 5 := by omega
            clear hB hO hR hki hi hxi hir hx1
            go_wp2
            have hz0 := blk_set (blk_set HMB.out.r (i := 0) (.slice av 2 cv)) (i := 1) (.slice arv nrv crv)
            have s0 := blk_cell hz0 (i := 0) (v := .slice av 2 cv) rfl
            have s1 := blk_cell hz0 (i := 1) (v := .slice arv nrv crv) rfl
            have hv := own_setCell (own_setCell HO.out (p := ⟨w.heap.size + 1, 0, none⟩) (.slice av 2 cv) (fun e => by have := (HO.out.lt _ e).1; simp at this)) (p := ⟨w.heap.size + 1, 1, none⟩) (.slice arv nrv crv) (fun e => by have := (HO.out.lt _ e).1; simp at this)
            have hr := ((HR.out.low (p := ⟨w.heap.size + 1, 0, none⟩) (by show w.heap.size + 1 < W1.heap.size; omega) (.slice av 2 cv)).low (p := ⟨w.heap.size + 1, 1, none⟩) (by show w.heap.size + 1 < W1.heap.size; omega) (.slice arv nrv crv)).isRules
            rw [HTI.out] at hr
            refine bodyPost_ret (v := .agg #[.slice av 2 cv, .slice arv nrv crv]) (by simp [results, Tryz.results38, go_sem, s0, s1]) rfl ⟨_, _, rfl, ⟨isVars_of hv.reads, hr⟩, ext_st (ext_st HX1.out (p := ⟨w.heap.size + 1, 0, none⟩) (by show w.heap.size ≤ w.heap.size + 1; omega) _) (p := ⟨w.heap.size + 1, 1, none⟩) (by show w.heap.size ≤ w.heap.size + 1; omega) _⟩
          · have hiI : ¬ (i : Int) < (d.rules.length : Int) := by omega
            clear hB hO hR hki hi hxi hir hx1
            go_wp2
            have hz0 := blk_set (blk_set HMB.out.r (i := 0) (.slice av 2 cv)) (i := 1) (.slice arv nrv crv)
            have s0 := blk_cell hz0 (i := 0) (v := .slice av 2 cv) rfl
            have s1 := blk_cell hz0 (i := 1) (v := .slice arv nrv crv) rfl
            have hv := own_setCell (own_setCell HO.out (p := ⟨w.heap.size + 1, 0, none⟩) (.slice av 2 cv) (fun e => by have := (HO.out.lt _ e).1; simp at this)) (p := ⟨w.heap.size + 1, 1, none⟩) (.slice arv nrv crv) (fun e => by have := (HO.out.lt _ e).1; simp at this)
            have hr := ((HR.out.low (p := ⟨w.heap.size + 1, 0, none⟩) (by show w.heap.size + 1 < W1.heap.size; omega) (.slice av 2 cv)).low (p := ⟨w.heap.size + 1, 1, none⟩) (by show w.heap.size + 1 < W1.heap.size; omega) (.slice arv nrv crv)).isRules
            rw [HTI.out] at hr
            refine bodyPost_ret (v := .agg #[.slice av 2 cv, .slice arv nrv crv]) (by simp [results, Tryz.results38, go_sem, s0, s1]) rfl ⟨_, _, rfl, ⟨isVars_of hv.reads, hr⟩, ext_st (ext_st HX1.out (p := ⟨w.heap.size + 1, 0, none⟩) (by show w.heap.size ≤ w.heap.size + 1; omega) _) (p := ⟨w.heap.size + 1, 1, none⟩) (by show w.heap.size ≤ w.heap.size + 1; omega) _⟩

end Go.Proofs.YtbmimdnpchldlaaGreatDoor

namespace Go.Proofs.YtbmimdnpchldlaaGreatDoor
open Go.RowKit

set_option maxRecDepth 100000 in
set_option maxHeartbeats 2000000 in
theorem name_any (s : ByteArray) (w : World) (h : NameOk s) :
    Calls Tryz.prog 138 #[.string s] w fun e w' => e = .returned (.bool true) ∧ Ext w w' := by
  have h1 := h.pos
  have h2 := h.le
  have h3 : s.toList ≠ [] := by
    intro e
    have : s.toList.length = 0 := by rw [e]; rfl
    rw [ByteArray.toList_eq, Array.length_toList] at this
    have e2 : s.size = s.data.size := rfl
    omega
  have hconv := run_bytes_of_string (P := Tryz.prog) w 9 222 5 s Tryz.underlying9 Tryz.underlying222 Tryz.underlying5
  have hcell : ∀ i (hi : i < s.size), (w.drew.alloc (.cells (bytesRow s (grownCap w s.size 0 5)) 5 ((bytesRow s (grownCap w s.size 0 5)).size, (bytesRow s (grownCap w s.size 0 5)).size + 1))).cell? ⟨w.heap.size, i, none⟩ = some (.int .u8 (s[i].toNat : Int)) := by
    intro i hi
    have := bytesRow_at s (grownCap w s.size 0 5) i hi
    have hb := heap_alloc_new w.drew (Obj.cells (bytesRow s (grownCap w s.size 0 5)) 5 ((bytesRow s (grownCap w s.size 0 5)).size, (bytesRow s (grownCap w s.size 0 5)).size + 1))
    rw [show w.drew.heap.size = w.heap.size from rfl] at hb
    simp only [World.cell?, hb]
    exact this
  generalize bytesRow s (grownCap w s.size 0 5) = C at *
  generalize grownCap w s.size 0 5 = cap at *
  have HC := Lib.hid hcell
  have HE := Lib.hid (show Ext w (w.drew.alloc (.cells C 5 (C.size, C.size + 1))) from ext_al (Below.drew (Ext.refl w)) _)
  have HK := Lib.hid h.ch
  have e1 : s.toList.isEmpty = false := by simpa using h3
  have e2 : (s.toList == [121, 101, 115]) = false := by rw [beq_eq_false_iff_ne]; exact h.yes
  have e3 : (s.toList == [110, 111]) = false := by rw [beq_eq_false_iff_ne]; exact h.no
  clear h h3 hcell
  go_enter Tryz.func138, Tryz.ntmps138
  go_wp2_with fail
  go_loopg [23] s.size (fun m x wr => ∃ i : Nat, m + i = s.size ∧ x = .int .i64 (i : Int) ∧ Ext w wr ∧ ∀ j (h : j < s.size), wr.cell? ⟨w.heap.size, j, none⟩ = some (.int .u8 (s[j].toNat : Int)))
  case atStart => exact ⟨0, by omega, by go_num, HE.out, HC.out⟩
  case round =>
    obtain ⟨i, hm, rfl, hE, hc⟩ := hrel
    have HM := Lib.hid hm
    have HX := Lib.hid hE
    have HY := Lib.hid hc
    clear hm hE
    by_cases hi : i < s.size
    · have ci := hc i hi
      have hk := HK.out i hi
      have hb := s[i].toNat_lt
      clear hc
      generalize s[i].toNat = c at *
      have hiI : (i : Int) < (s.size : Int) := by omega
      have hi0 : (0 : Int) ≤ (i : Int) := by omega
      rcases hk with ⟨k1, k2⟩ | ⟨k1, k2, k3⟩
      · have q1 : ¬ (c : Int) < 97 := by omega
        have q2 : ¬ (122 : Int) < (c : Int) := by omega
        go_wp2_with fail
        go_roundg (gk - 1)
        case measure => have := HM.out; omega
        case rel => exact ⟨i + 1, by have := HM.out; omega, by go_num, HX.out, HY.out⟩
      · have q1 : (c : Int) < 97 := by omega
        have q2 : ¬ (c : Int) < 48 := by omega
        have q3 : ¬ (57 : Int) < (c : Int) := by omega
        have q4 : ((i : Int) == 0) = false := by rw [beq_eq_false_iff_ne]; omega
        go_wp2_with fail
        go_roundg (gk - 1)
        case measure => have := HM.out; omega
        case rel => exact ⟨i + 1, by have := HM.out; omega, by go_num, HX.out, HY.out⟩
    · have hiI : ¬ (i : Int) < (s.size : Int) := by omega
      clear hc
      go_wp2
      go_ret
      exact ⟨rfl, HX.out⟩

/-- What kind answers of a term that is typed. -/
def kindE (t : Tm) (truth : Bool) : Int := if mkK t.kind = truth then 0 else 5

set_option maxRecDepth 100000 in
set_option maxHeartbeats 2000000 in
theorem kind_any (v : Value) (t : Tm) (n : Int) (b : Bool) (w : World) (h : IsT w v t) (ht : Tab w) (h1 : 0 ≤ n) (h2 : n ≤ 6) (hs : Sub t n) (hz : t.size ≤ 60) :
    Calls Tryz.prog 86 #[v, .int .i64 n, .bool b] w fun e w' => e = .returned (.int .i64 (kindE t b)) ∧ Ext w w' := by
  have hc := check_t v t n w h ht h1 h2 hs.ok hz hs.good
  rw [hs.typed] at hc
  simp only [Bool.true_and, if_true] at hc
  have HC := Lib.hid hc
  have HK := Lib.hid (show kindE t b = if mkK t.kind = b then 0 else 5 from rfl)
  clear hc hs h ht
  generalize kindE t b = r at *
  generalize mkK t.kind = k at *
  go_enter Tryz.func86, Tryz.ntmps86
  go_wp2_with fail
  refine HC.out.mono ?_
  rintro e w1 ⟨rfl, hE⟩
  have HE := Lib.hid hE
  clear hE HC
  cases k <;> cases b
  all_goals
    go_wp2
    go_ret
    exact ⟨by rw [HK.out]; rfl, HE.out⟩

end Go.Proofs.YtbmimdnpchldlaaGreatDoor

namespace Go.Proofs.YtbmimdnpchldlaaGreatDoor
open Go.RowKit

abbrev encS (s : ByteArray) : Value := .string s
abbrev encI (n : Int) : Value := .int .i64 n
theorem Tryz.keyS : KeyLaw Tryz.prog 9 encS := KeyLaw.string Tryz.underlying9
theorem Tryz.keyI : KeyLaw Tryz.prog 3 encI := KeyLaw.int Tryz.underlying3
theorem Tryz.zeroU (w : World) : (zeroValue 206).run Tryz.prog w = .ok (.agg #[]) w := by kernel_rfl

/-- What was seen of a list. -/
def seenL {κ : Type} (l : List κ) : List (κ × Value) := l.map fun k => (k, .agg #[])
theorem seen_none {κ : Type} [DecidableEq κ] {k : κ} {l : List κ} (h : k ∉ l) : lkp k (seenL l) = none := by
  rw [lkp_none]
  intro p hp e
  obtain ⟨x, hx, rfl⟩ := List.mem_map.1 hp
  exact h (e ▸ hx)
theorem seen_some {κ : Type} [DecidableEq κ] {k : κ} : ∀ {l : List κ}, k ∈ l → lkp k (seenL l) = some (.agg #[])
  | [], h => by simp at h
  | x :: l, h => by
    show (if k = x then some (.agg #[]) else lkp k (seenL l)) = _
    by_cases e : k = x
    · rw [if_pos e]
    · rw [if_neg e]
      exact seen_some (by simpa [e] using h)
theorem seen_snoc {κ : Type} (l : List κ) (k : κ) : seenL l ++ [(k, .agg #[])] = seenL (l ++ [k]) := by simp [seenL]

theorem nodup_take {κ : Type} {l : List κ} {i : Nat} (h : i < l.length) (hn : (l.take i).Nodup) (hm : l[i] ∉ l.take i) : (l.take (i + 1)).Nodup := by
  rw [List.take_succ_eq_append_getElem h, List.nodup_append]
  exact ⟨hn, by simp, by intro a ha b hb e; simp at hb; subst hb; subst e; exact hm ha⟩
theorem nodup_not {κ : Type} {l : List κ} {i : Nat} (h : i < l.length) (hm : l[i] ∈ l.take i) : ¬ l.Nodup := by
  intro hn
  obtain ⟨j, hj, e⟩ := List.mem_take_iff_getElem.1 hm
  exact (List.pairwise_iff_getElem.1 hn) j i (by omega) h (by omega) e

set_option maxRecDepth 100000 in
set_option maxHeartbeats 4000000 in
theorem vars_any (v : Value) (l : List Vr) (w : World) (h : IsVars w v l) (h6 : l.length ≤ 6) (hv : ∀ x ∈ l, x.Ok) (hc : countL l ≤ 4096) :
    Calls Tryz.prog 114 #[v] w fun e w' => e = .returned (.int .i64 (if (l.map (·.name)).Nodup then 0 else 7)) ∧ Ext w w' := by
  obtain ⟨a, c, rfl, _, b, off, ha, hcells⟩ := h.at
  have HA := Lib.hid ha
  have HC := Lib.hid hcells
  have HV := Lib.hid hv
  have HN := Lib.hid hc
  have hmm := @run_makeMap Tryz.prog
  obtain ⟨r, hr⟩ : ∃ r : Int, (if (l.map (·.name)).Nodup then 0 else 7) = r := ⟨_, rfl⟩
  rw [hr]
  have HR := Lib.hid hr
  clear h ha hcells hv hc hr
  go_enter Tryz.func114, Tryz.ntmps114
  go_wp2_with fail
  have hm0 := MapG.new encS w
  have HM0 := Lib.hid hm0
  have HE0 := Lib.hid (ext_al (Ext.refl w) (Obj.map #[] 0))
  clear hm0 hmm
  go_loopg [4, 15] l.length (fun m x y wr => ∃ i : Nat, m + i = l.length ∧ y = .int .i64 (i : Int) ∧ x = .int .i64 (countL (l.take i)) ∧ Ext w wr ∧ MapG encS wr w.heap.size (seenL ((l.take i).map (·.name))) ∧ ((l.map (·.name)).take i).Nodup)
  case atStart => exact ⟨0, by omega, by go_num, rfl, HE0.out, HM0.out, by simp⟩
  case round =>
    obtain ⟨i, hm, rfl, rfl, hE, hM, hnd⟩ := hrel
    have HM := Lib.hid hm
    have HND := Lib.hid hnd
    clear hnd hm HM0 HE0
    by_cases hi : i < l.length
    · obtain rfl := HA.out (by omega)
      obtain ⟨c0, c1, c2, c3⟩ := HC.out i hi
      have c0 := cell_later hE c0
      have c1 := cell_later hE c1
      have c2 := cell_later hE c2
      have c3 := cell_later hE c3
      have hok := HV.out l[i] (by simp)
      have hsp := hok.span
      have hct := countL_take (l := l) HV.out i
      have hct2 := countL_take (l := l) HV.out (i + 1)
      have hcs := countL_snoc hi
      have hn4 := HN.out
      have o1 := hok.low
      have o2 := hok.high
      have o3 := hok.i0
      have o4 := hok.i1
      have o5 := hok.sp
      unfold Vr.span at hsp hcs
      have HCS := Lib.hid hcs
      have HTI := Lib.hid (show ((l.take (i + 1)).map (·.name)) = (l.take i).map (·.name) ++ [l[i].name] by rw [List.take_succ_eq_append_getElem hi, List.map_append, List.map_cons, List.map_nil])
      have HTM := Lib.hid (show (l.map (·.name)).take i = (l.take i).map (·.name) by rw [List.map_take])
      have HLI := Lib.hid (show ∀ (h : i < (l.map (·.name)).length), (l.map (·.name))[i] = l[i].name from fun h => by simp)
      have HNM := Lib.hid (name_any l[i].name (wr.alloc (Obj.cells (vrc l[i]).toArray 89)) hok.name)
      have hiI : (i : Int) < (l.length : Int) := by omega
      have hi0 : (0 : Int) ≤ (i : Int) := by omega
      have hx := ext_al (Ext.refl wr) (Obj.cells (vrc l[i]).toArray 89)
      have hbk := blk_new wr (Obj.cells (vrc l[i]).toArray 89)
      simp only [vrc] at HNM hx hbk
      have HBK := Lib.hid hbk
      have HMX := Lib.hid (hM.ext hx)
      have HEX := Lib.hid (hE.trans hx)
      have HWR := Lib.hid hM.lt
      clear hM hE hx hbk hcs hok
      go_wp2_with fail
      refine HNM.out.mono ?_
      rintro e w2 ⟨rfl, hE2⟩
      have hbk := blk_ext HBK.out hE2
      have d0 := blk_cell hbk (i := 0) rfl
      have d1 := blk_cell hbk (i := 1) rfl
      have d2 := blk_cell hbk (i := 2) rfl
      have d3 := blk_cell hbk (i := 3) rfl
      have HM2 := Lib.hid (HMX.out.ext hE2)
      have HE2 := Lib.hid (HEX.out.trans hE2)
      have HBK2 := Lib.hid hbk
      clear hE2 hbk c0 c1 c2 c3 HMX HEX HBK HNM
      by_cases hin : l[i].name ∈ (l.take i).map (·.name)
      · have hno : ¬ (l.map (·.name)).Nodup := nodup_not (i := i) (by simpa using hi) (by rw [HLI.out, HTM.out]; exact hin)
        have HNO := Lib.hid hno
        have HIN := Lib.hid (seen_some hin)
        clear hin hno
        go_wp2_with (refine wpl_lookup_g Tryz.keyS Tryz.underlying204 rfl rfl HM2.out rfl rfl HIN.out ?_)
        clear d0 d1 d2 d3
        obtain rfl : r = 7 := by rw [← HR.out, if_neg HNO.out]
        go_wp2
        go_ret
        exact ⟨rfl, ext_al HE2.out _⟩
      · have HIN := Lib.hid (seen_none hin)
        have hnd2 := nodup_take (i := i) (l := l.map (·.name)) (by simpa using hi) HND.out (by rw [HLI.out, HTM.out]; exact hin)
        have HND2 := Lib.hid hnd2
        have hx3 := ext_al (Ext.refl w2) (Obj.cells #[] 206)
        have e0 := cell_later hx3 d0
        have HX3 := Lib.hid hx3
        have hlt := blk_lt HBK2.out
        have hwl := HM2.out.lt
        have hmw : ¬ wr.heap.size = w.heap.size := by have := HWR.out; omega
        clear hin hnd2 hx3 d1 d2 d3
        go_wp2_with (first
          | (refine wpl_lookup_gn Tryz.keyS Tryz.underlying204 rfl rfl HM2.out rfl rfl (Tryz.zeroU _) HIN.out ?_)
          | (at_mapUpdate; go_must (refine wpl_update_g Tryz.keyS Tryz.underlying204 rfl rfl (HM2.out.ext HX3.out) rfl rfl HIN.out ?_)))
        intro w3 hm3 hg3 hs3
        have hbk := blk_grown (blk_ext HBK2.out HX3.out) hg3 (by intro e; injection e with e; exact hmw e)
        have hE3 : Ext w w3 := Below.grown (HE2.out.trans HX3.out) hg3 (HE2.out.trans HX3.out).size (fun b hb => by injection hb with hb; omega)
        have d1 := blk_cell hbk (i := 1) rfl
        have d2 := blk_cell hbk (i := 2) rfl
        have d3 := blk_cell hbk (i := 3) rfl
        rw [seen_snoc] at hm3
        have HM3 := Lib.hid hm3
        have HE3 := Lib.hid hE3
        have p1 : ¬ l[i].low < -1000 := by omega
        have p2 : ¬ (1000 : Int) < l[i].high := by omega
        have p3 : ¬ l[i].high < l[i].low := by omega
        have p4 : ¬ l[i].init < l[i].low := by omega
        have p5 : ¬ l[i].high < l[i].init := by omega
        have p6 : ¬ (64 : Int) ≤ l[i].high - l[i].low := by omega
        have p7 := HCS.out
        have p8 : ¬ (4096 : Int) < countL (l.take (i + 1)) := by omega
        have p9 : IntKind.i64.wrap (countL (l.take i) * (l[i].high - l[i].low + 1)) = countL (l.take (i + 1)) := by rw [← p7]; exact IntWalk.i64_in _ (by omega)
        clear hm3 hE3 hg3 hs3 hbk e0 d0 p7
        go_wp2_with fail
        go_roundg (gk - 1)
        case measure => have := HM.out; omega
        case rel => exact ⟨i + 1, by have := HM.out; omega, by go_num, rfl, HE3.out, by rw [HTI.out, ← HTM.out]; exact HM3.out, HND2.out⟩
    · have hil : i = l.length := by have := HM.out; omega
      have hnd : (l.map (·.name)).Nodup := by
        have := HND.out
        rw [hil, List.take_of_length_le (by simp)] at this
        exact this
      have HNO := Lib.hid hnd
      have HEX := Lib.hid hE
      have hiI : ¬ (i : Int) < (l.length : Int) := by omega
      obtain rfl : r = 0 := by rw [← HR.out, if_pos HNO.out]
      clear hM hE hnd hil
      go_wp2
      go_ret
      exact ⟨rfl, HEX.out⟩

end Go.Proofs.YtbmimdnpchldlaaGreatDoor

namespace Go.Proofs.YtbmimdnpchldlaaGreatDoor
open Go.RowKit

set_option maxRecDepth 100000 in
set_option maxHeartbeats 4000000 in
theorem rule_any (g sv : Value) (r : Rl) (n : Int) (w : World) (hg : IsT w g r.guard) (hs : IsSets w sv r.sets) (ht : Tab w) (h0 : 0 ≤ n) (h6 : n ≤ 6) (hr : RlPre n r) :
    Calls Tryz.prog 115 #[.agg #[g, sv], .int .i64 n] w fun e w' => e = .returned (.int .i64 (ruleE r)) ∧ Ext w w' := by
  obtain ⟨a, c, rfl, _, b, off, ha, hcells⟩ := hs.at
  have hm6 := hr.many
  have HKG := Lib.hid fun wx (hx : Ext w wx) => kind_any g r.guard n true wx (hg.ext hx) (ht.ext hx) h0 h6 hr.guard hr.gsize
  have HA := Lib.hid ha
  have HC := Lib.hid hcells
  have HS := Lib.hid hr.sets
  have HT := Lib.hid ht
  have HKE := Lib.hid (show kindE r.guard true = if mkK r.guard.kind = true then 0 else 5 from rfl)
  have HR := Lib.hid (show ruleE r = if mkK r.guard.kind = true then (if (r.sets.map (·.1)).Nodup then 0 else 7) else 5 from rfl)
  obtain ⟨ag, ng, cg, rfl⟩ := hg.val
  have hmm := @run_makeMap Tryz.prog
  generalize ruleE r = res at *
  generalize kindE r.guard true = kr at *
  generalize mkK r.guard.kind = bk at *
  generalize r.sets = l at *
  clear hs ha hcells hr ht hg
  go_enter Tryz.func115, Tryz.ntmps115
  have hbk := blk_new w (Obj.cells #[.slice ag ng cg, .slice a l.length c] 86)
  have HE := Lib.hid (ext_al (Ext.refl w) (Obj.cells #[.slice ag ng cg, .slice a l.length c] 86))
  have HB := Lib.hid hbk
  clear hbk
  go_wp2_with fail
  generalize w.alloc (Obj.cells #[.slice ag ng cg, .slice a l.length c] 86) = W1 at *
  refine (HKG.out _ HE.out).mono ?_
  rintro e w2 ⟨rfl, hE2⟩
  have hbk := blk_ext HB.out hE2
  have d1 := blk_cell hbk (i := 1) (v := .slice a l.length c) rfl
  have HE2 := Lib.hid (HE.out.trans hE2)
  clear hbk hE2 HKG HB HE
  cases bk
  · obtain rfl : kr = 5 := HKE.out
    obtain rfl : res = 5 := HR.out
    clear d1
    go_wp2
    go_ret
    exact ⟨rfl, HE2.out⟩
  · obtain rfl : kr = 0 := HKE.out
    have HR2 := Lib.hid (show res = if (l.map (·.1)).Nodup then 0 else 7 from HR.out)
    have d2 := cell_later (ext_al (Ext.refl w2) (Obj.map #[] 0)) d1
    clear HR
    go_wp2_with fail
    clear d1 d2 hmm
    have HM0 := Lib.hid (MapG.new encI w2)
    have HE0 := Lib.hid (HE2.out.trans (ext_al (Ext.refl w2) (Obj.map #[] 0)))
    go_loopg [27] l.length (fun m y wr => ∃ i : Nat, m + i = l.length ∧ y = .int .i64 (i : Int) ∧ Ext w wr ∧ MapG encI wr w2.heap.size (seenL ((l.map (·.1)).take i)) ∧ ((l.map (·.1)).take i).Nodup)
    case atStart => exact ⟨0, by omega, by go_num, HE0.out, HM0.out, by simp⟩
    case round =>
      obtain ⟨i, hm, rfl, hE, hM, hnd⟩ := hrel
      have HM := Lib.hid hm
      have HND := Lib.hid hnd
      clear hnd hm HM0 HE0
      by_cases hi : i < l.length
      · obtain rfl := HA.out (by omega)
        obtain ⟨u, c0, c1, hu⟩ := HC.out i hi
        obtain ⟨s1, s2, s3, s4, s5⟩ := HS.out l[i] (by simp)
        have c0 := cell_later hE c0
        have c1 := cell_later hE c1
        have HKV := Lib.hid fun wx (hx : Ext w wx) => kind_any u l[i].2 n false wx (hu.ext hx) (HT.out.ext hx) h0 h6 s3 s4
        have HK0 := Lib.hid (show kindE l[i].2 false = 0 by unfold kindE; rw [s5]; rfl)
        obtain ⟨au, nu, cu, rfl⟩ := hu.val
        have HLI := Lib.hid (show (l.map (·.1))[i]? = some l[i].1 by rw [List.getElem?_map, List.getElem?_eq_getElem hi]; rfl)
        have hil : i < (l.map (·.1)).length := by simpa using hi
        have HLE := Lib.hid (show (l.map (·.1))[i] = l[i].1 by simp)
        have hiI : (i : Int) < (l.length : Int) := by omega
        have hi0 : (0 : Int) ≤ (i : Int) := by omega
        have q1 : ¬ l[i].1 < 0 := by omega
        have q2 : ¬ n ≤ l[i].1 := by omega
        have hx := ext_al (Ext.refl wr) (Obj.cells #[.int .i64 l[i].1, .slice au nu cu] 141)
        have hbk := blk_new wr (Obj.cells #[.int .i64 l[i].1, .slice au nu cu] 141)
        have e0 := blk_cell hbk (i := 0) (v := .int .i64 l[i].1) rfl
        have hwM := hM.lt
        have HMX := Lib.hid (hM.ext hx)
        have HEX := Lib.hid (hE.trans hx)
        have HBK := Lib.hid hbk
        have hx3 := ext_al (Ext.refl (wr.alloc (Obj.cells #[.int .i64 l[i].1, .slice au nu cu] 141))) (Obj.cells #[] 206)
        have HX3 := Lib.hid hx3
        have e1 := cell_later hx3 e0
        have hmw : ¬ wr.heap.size = w2.heap.size := by omega
        have hw2 := HE2.out.size
        clear hM hE hx hbk hu s3 s4 s5 hx3
        by_cases hin : l[i].1 ∈ (l.map (·.1)).take i
        · have hno : ¬ (l.map (·.1)).Nodup := nodup_not hil (by rw [HLE.out]; exact hin)
          have HNO := Lib.hid hno
          have HIN := Lib.hid (seen_some hin)
          obtain rfl : res = 7 := by rw [HR2.out, if_neg HNO.out]
          clear hin hno
          go_wp2_with (refine wpl_lookup_g Tryz.keyI Tryz.underlying208 rfl rfl HMX.out rfl rfl HIN.out ?_)
          go_ret
          exact ⟨rfl, HEX.out.trans HX3.out⟩
        · have HIN := Lib.hid (seen_none hin)
          have HND2 := Lib.hid (nodup_take hil HND.out (by rw [HLE.out]; exact hin))
          clear hin
          go_wp2_with (first
            | (refine wpl_lookup_gn Tryz.keyI Tryz.underlying208 rfl rfl HMX.out rfl rfl (Tryz.zeroU _) HIN.out ?_)
            | (at_mapUpdate; go_must (refine wpl_update_g Tryz.keyI Tryz.underlying208 rfl rfl (HMX.out.ext HX3.out) rfl rfl HIN.out ?_)))
          intro w3 hm3 hg3 hs3
          have hbk := blk_grown (blk_ext HBK.out HX3.out) hg3 (by intro e; injection e with e; exact hmw e)
          have hE3 : Ext w w3 := Below.grown (HEX.out.trans HX3.out) hg3 (HEX.out.trans HX3.out).size (fun b hb => by injection hb with hb; omega)
          have d1 := blk_cell hbk (i := 1) (v := .slice au nu cu) rfl
          rw [seen_snoc] at hm3
          have HM3 := Lib.hid hm3
          have HKV2 := Lib.hid (HKV.out _ hE3)
          rw [HK0.out] at HKV2
          have HE3 := Lib.hid hE3
          have HTI := Lib.hid (show (l.map (·.1)).take (i + 1) = (l.map (·.1)).take i ++ [l[i].1] by rw [List.take_succ_eq_append_getElem hil, HLE.out])
          clear hm3 hE3 hg3 hs3 hbk e0 e1 c0 c1
          go_wp2_with fail
          refine HKV2.out.mono ?_
          rintro e w4 ⟨rfl, hE4⟩
          have HM4 := Lib.hid (HM3.out.ext hE4)
          have HE4 := Lib.hid (HE3.out.trans hE4)
          clear hE4 d1
          go_wp2_with fail
          go_roundg (gk - 1)
          case measure => have := HM.out; omega
          case rel => exact ⟨i + 1, by have := HM.out; omega, by go_num, HE4.out, by rw [HTI.out]; exact HM4.out, HND2.out⟩
      · have hnd : (l.map (·.1)).Nodup := by
          have := HND.out
          rw [List.take_of_length_le (by simp; omega)] at this
          exact this
        have HNO := Lib.hid hnd
        have HEX := Lib.hid hE
        have hiI : ¬ (i : Int) < (l.length : Int) := by omega
        obtain rfl : res = 0 := by rw [HR2.out, if_pos HNO.out]
        clear hM hE hnd
        go_wp2
        go_ret
        exact ⟨rfl, HEX.out⟩

end Go.Proofs.YtbmimdnpchldlaaGreatDoor

namespace Go.Proofs.YtbmimdnpchldlaaGreatDoor
open Go.RowKit

set_option maxRecDepth 100000 in
set_option maxHeartbeats 4000000 in
theorem mcheck_any (vv rv : Value) (m : Md) (w : World) (h : IsMd w vv rv m) (ht : Tab w) (hp : m.Pre) :
    Calls Tryz.prog 85 #[.agg #[vv, rv]] w fun e w' => e = .returned (.int .i64 (modelE m)) ∧ Ext w w' := by
  obtain ⟨av, cv, rfl⟩ := EachL.val h.vars
  obtain ⟨a, c, rfl, _, b, off, ha, hcells⟩ := h.rules.at
  have h6 := hp.six
  have h12 := hp.twelve
  have hE0 := ext_al (Ext.refl w) (Obj.cells #[.slice av m.vars.length cv, .slice a m.rules.length c] 31)
  have HVA := Lib.hid (vars_any _ m.vars _ (h.vars.ext hE0) hp.six hp.vars hp.count)
  have HA := Lib.hid ha
  have HC := Lib.hid hcells
  have HRP := Lib.hid hp.rules
  have HT := Lib.hid ht
  obtain ⟨res, hres⟩ : ∃ r, modelE m = r := ⟨_, rfl⟩
  rw [hres]
  have HR := Lib.hid (show (if (m.vars.map (·.name)).Nodup then rulesE m.rules else 7) = res from hres)
  have hbk := blk_new w (Obj.cells #[.slice av m.vars.length cv, .slice a m.rules.length c] 31)
  have HB := Lib.hid hbk
  have HE := Lib.hid hE0
  clear h ha hcells hp ht hres hbk hE0
  generalize (m.vars.map (·.name)) = names at *
  generalize m.vars.length = n at *
  generalize m.rules = l at *
  go_enter Tryz.func85, Tryz.ntmps85
  go_wp2_with fail
  generalize w.alloc (Obj.cells #[.slice av n cv, .slice a l.length c] 31) = W1 at *
  refine HVA.out.mono ?_
  rintro e w2 ⟨rfl, hE2⟩
  have hbk := blk_ext HB.out hE2
  have d0 := blk_cell hbk (i := 0) (v := .slice av n cv) rfl
  have d1 := blk_cell hbk (i := 1) (v := .slice a l.length c) rfl
  have HB2 := Lib.hid hbk
  have HE2 := Lib.hid (HE.out.trans hE2)
  clear hbk hE2 HVA HB HE
  by_cases hnd : names.Nodup
  case neg =>
    have HNO := Lib.hid hnd
    obtain rfl : res = 7 := by rw [← HR.out, if_neg HNO.out]
    rw [if_neg hnd]
    clear hnd d0 d1
    go_wp2
    go_ret
    exact ⟨rfl, HE2.out⟩
  case pos =>
    rw [if_pos hnd]
    have HR2 := Lib.hid (show rulesE l = res by rw [← HR.out, if_pos hnd])
    clear HR hnd
    go_wp2_with fail
    clear d0 d1
    go_loopg [20] l.length (fun m y wr => ∃ i : Nat, m + i = l.length ∧ y = .int .i64 (i : Int) ∧ Ext w2 wr ∧ ∀ j (h : j < l.length), j < i → ruleE l[j] = 0)
    case atStart => exact ⟨0, by omega, by go_num, Ext.refl _, fun j h hj => by omega⟩
    case round =>
      obtain ⟨i, hm, rfl, hE, hno⟩ := hrel
      have HM := Lib.hid hm
      have HNO := Lib.hid hno
      clear hno hm
      by_cases hi : i < l.length
      · obtain rfl := HA.out (by omega)
        obtain ⟨g, s, c0, c1, hg, hs⟩ := HC.out i hi
        have hEW := HE2.out.trans hE
        have c0 := cell_later hEW c0
        have c1 := cell_later hEW c1
        obtain ⟨ag, ng, cg, rfl⟩ := hg.val
        obtain ⟨sa, sc, rfl⟩ := EachL.val hs
        have hx := ext_al (Ext.refl wr) (Obj.cells #[.slice ag ng cg, .slice sa l[i].sets.length sc] 86)
        have hRU := rule_any _ _ l[i] (n : Int) _ (hg.ext (hEW.trans hx)) (hs.ext (hEW.trans hx)) (HT.out.ext (hEW.trans hx)) (by omega) (by omega) (HRP.out l[i] (by simp))
        have d0 := cell_later (hE.trans hx) (blk_cell HB2.out (i := 0) (v := .slice av n cv) rfl)
        have HRU := Lib.hid hRU
        have HX := Lib.hid (hE.trans hx)
        obtain ⟨re, hre⟩ : ∃ r, ruleE l[i] = r := ⟨_, rfl⟩
        rw [hre] at HRU
        have HRE := Lib.hid hre
        have hiI : (i : Int) < (l.length : Int) := by omega
        have hi0 : (0 : Int) ≤ (i : Int) := by omega
        clear hE hEW hg hs hx hRU hre
        go_wp2_with fail
        refine HRU.out.mono ?_
        rintro e w4 ⟨rfl, hE4⟩
        have HE4 := Lib.hid (HX.out.trans hE4)
        clear hE4 d0 c0 c1 HRU HX
        by_cases h0 : re = 0
        · subst h0
          go_wp2_with fail
          go_roundg (gk - 1)
          case measure => have := HM.out; omega
          case rel => exact ⟨i + 1, by have := HM.out; omega, by go_num, HE4.out, fun j h hj => by
            by_cases e : j = i
            · subst e; exact HRE.out
            · exact HNO.out j h (by omega)⟩
        · have h0I : (re == 0) = false := by rw [beq_eq_false_iff_ne]; exact h0
          have h0J : (re != 0) = true := by rw [bne_iff_ne]; exact h0
          obtain rfl : res = re := by rw [← HR2.out, rulesE_at hi HNO.out (by rw [HRE.out]; exact h0), HRE.out]
          have HEF := Lib.hid (HE2.out.trans HE4.out)
          clear h0
          go_wp2
          go_ret
          exact ⟨rfl, HEF.out⟩
      · obtain rfl : res = 0 := by rw [← HR2.out]; exact rulesE_all fun j h => HNO.out j h (by omega)
        have HEF := Lib.hid (HE2.out.trans hE)
        have hiI : ¬ (i : Int) < (l.length : Int) := by omega
        clear hE
        go_wp2
        go_ret
        exact ⟨rfl, HEF.out⟩

theorem mcheck_ok (vv rv : Value) (m : Md) (w : World) (h : IsMd w vv rv m) (ht : Tab w) (hp : m.Ok) :
    Calls Tryz.prog 85 #[.agg #[vv, rv]] w fun e w' => e = .returned (.int .i64 0) ∧ Ext w w' := by
  have := mcheck_any vv rv m w h ht hp.toPre
  rw [hp.e] at this
  exact this

set_option maxRecDepth 100000 in
set_option maxHeartbeats 4000000 in
theorem count_any (vv rv : Value) (m : Md) (w : World) (h : IsMd w vv rv m) (ht : Tab w) (hp : m.Ok) :
    Calls Tryz.prog 81 #[.agg #[vv, rv]] w fun e w' => e = .returned (.tuple #[.int .i64 (countL m.vars), .int .i64 0]) ∧ Ext w w' := by
  have hE0 := ext_al (Ext.refl w) (Obj.cells #[vv, rv] 31)
  have HCK := Lib.hid (mcheck_ok vv rv m _ (h.ext hE0) (ht.ext hE0) hp)
  obtain ⟨av, cv, rfl, _, b, off, ha, hcells⟩ := h.vars.at
  obtain ⟨a, c, rfl⟩ := EachL.val h.rules
  have h6 := hp.six
  have hbk := blk_new w (Obj.cells #[.slice av m.vars.length cv, .slice a m.rules.length c] 31)
  have HB := Lib.hid hbk
  have HE := Lib.hid hE0
  have HA := Lib.hid ha
  have HC := Lib.hid hcells
  have HV := Lib.hid hp.vars
  have HN := Lib.hid hp.count
  clear h ha hcells hp ht hbk hE0
  generalize m.rules.length = nr at *
  generalize m.vars = l at *
  go_enter Tryz.func81, Tryz.ntmps81
  have d0 := blk_cell HB.out (i := 0) (v := .slice av l.length cv) rfl
  have d1 := blk_cell HB.out (i := 1) (v := .slice a nr c) rfl
  go_wp2_with fail
  generalize w.alloc (Obj.cells #[.slice av l.length cv, .slice a nr c] 31) = W1 at *
  refine HCK.out.mono ?_
  rintro e w2 ⟨rfl, hE2⟩
  have d0 := cell_later hE2 d0
  have HE2 := Lib.hid (HE.out.trans hE2)
  clear hE2 HCK HB HE d1
  go_wp2_with fail
  clear d0
  go_loopg [5, 16] l.length (fun m x y wr => ∃ i : Nat, m + i = l.length ∧ y = .int .i64 (i : Int) ∧ x = .int .i64 (countL (l.take i)) ∧ Ext w wr)
  case atStart => exact ⟨0, by omega, by go_num, rfl, HE2.out⟩
  case round =>
    obtain ⟨i, hm, rfl, rfl, hE⟩ := hrel
    have HM := Lib.hid hm
    clear hm HE2
    by_cases hi : i < l.length
    · obtain rfl := HA.out (by omega)
      obtain ⟨c0, c1, c2, c3⟩ := HC.out i hi
      have c0 := cell_later hE c0
      have c1 := cell_later hE c1
      have c2 := cell_later hE c2
      have c3 := cell_later hE c3
      have hok := HV.out l[i] (by simp)
      have hsp := hok.span
      have hct := countL_take (l := l) HV.out i
      have hct2 := countL_take (l := l) HV.out (i + 1)
      have hcs := countL_snoc hi
      have hn4 := HN.out
      have o1 := hok.low
      have o2 := hok.high
      have o3 := hok.i0
      have o4 := hok.i1
      unfold Vr.span at hsp hcs
      have HCS := Lib.hid hcs
      have p9 : IntKind.i64.wrap (countL (l.take i) * (l[i].high - l[i].low + 1)) = countL (l.take (i + 1)) := by rw [← HCS.out]; exact IntWalk.i64_in _ (by omega)
      have hiI : (i : Int) < (l.length : Int) := by omega
      have hi0 : (0 : Int) ≤ (i : Int) := by omega
      have HX := Lib.hid (hE.trans (ext_al (Ext.refl wr) (Obj.cells (vrc l[i]).toArray 89)))
      simp only [vrc] at HX
      clear hE hcs hok
      go_wp2_with fail
      go_roundg (gk - 1)
      case measure => have := HM.out; omega
      case rel => exact ⟨i + 1, by have := HM.out; omega, by go_num, rfl, HX.out⟩
    · have hil : i = l.length := by have := HM.out; omega
      have HEX := Lib.hid hE
      have HTL := Lib.hid (show countL (l.take i) = countL l by rw [List.take_of_length_le (by omega)])
      have hiI : ¬ (i : Int) < (l.length : Int) := by omega
      rw [HTL.out]
      clear hE hil
      go_wp2
      go_ret2
      exact ⟨rfl, HEX.out⟩

end Go.Proofs.YtbmimdnpchldlaaGreatDoor

namespace Go.Proofs.YtbmimdnpchldlaaGreatDoor
open Go.RowKit

structure Shut (p : Prop) : Prop where
  out : p

theorem hq_step {P : Program} {ops : Array Oper} {C : World → Prop} {Q : Act → Prop} {a : Act} {o : Oper} {rest : List Oper}
    (h : ∀ K : Act → Prop, (∀ a, Shut (wpQuiet P ops C Q rest a) → K a) → if Region.wanted o (yielded ops a.tmps) then o.quiet P a C K else K (a.put o.dst undef)) : Shut (wpQuiet P ops C Q (o :: rest) a) :=
  ⟨wpQuiet_step fun K hK => h K fun a ha => hK a ha.out⟩

theorem hq_nil {P : Program} {ops : Array Oper} {C : World → Prop} {Q : Act → Prop} {a : Act} (h : Q a) : Shut (wpQuiet P ops C Q [] a) := ⟨wpQuiet_nil h⟩


end Go.Proofs.YtbmimdnpchldlaaGreatDoor

namespace Go.Proofs.YtbmimdnpchldlaaGreatDoor
open Go.RowKit

theorem codeL_snoc : ∀ {l : List Vr} {xs : List Int} {i : Nat} (h : i < l.length) (h2 : i < xs.length) (n : Int), codeL (l.take (i + 1)) (xs.take (i + 1)) n = codeL (l.take i) (xs.take i) n * l[i].span + xs[i] - l[i].low
  | v :: l, x :: xs, 0, _, _, n => by simp [codeL]
  | v :: l, x :: xs, i + 1, h, h2, n => by
    have := codeL_snoc (l := l) (xs := xs) (i := i) (by simpa using h) (by simpa using h2) (n * v.span + x - v.low)
    simpa [codeL] using this

theorem InV.take : ∀ {l : List Vr} {xs : List Int} (i : Nat), InV l xs → InV (l.take i) (xs.take i)
  | [], [], _, _ => by simp [InV]
  | v :: l, x :: xs, 0, _ => by simp [InV]
  | v :: l, x :: xs, i + 1, h => ⟨h.1, h.2.1, InV.take (l := l) (xs := xs) i h.2.2⟩
  | [], _ :: _, _, h => h.elim
  | _ :: _, [], _, h => h.elim

theorem InV.snoc {l : List Vr} {xs : List Int} {i : Nat} (h : i < l.length) (h2 : i < xs.length) (hI : InV (l.take i) (xs.take i)) (hb : l[i].low ≤ xs[i] ∧ xs[i] ≤ l[i].high) : InV (l.take (i + 1)) (xs.take (i + 1)) := by
  refine InV.of (by simp; omega) fun j hj hj2 => ?_
  simp only [List.length_take] at hj hj2
  rw [List.getElem_take, List.getElem_take]
  by_cases e : j = i
  · subst e; exact hb
  · have := hI.get j (by simp; omega) (by simp; omega)
    rwa [List.getElem_take, List.getElem_take] at this

/-- What Code answers. -/
def CodeE (l : List Vr) (xs : List Int) (n e : Int) : Prop := (InV l xs ∧ n = codeL l xs 0 ∧ e = 0) ∨ (¬ InV l xs ∧ n = 0 ∧ e = 9)
def CodeR (l : List Vr) (xs : List Int) (w : World) (e : Ending) (w' : World) : Prop := ∃ n c : Int, e = .returned (.tuple #[.int .i64 n, .int .i64 c]) ∧ CodeE l xs n c ∧ Ext w w'

theorem ints_at' {w : World} {a : Option Addr} {n c : Nat} {l : List Int} (h : Row w 1 a n c (l.map (.int .i64))) : ∃ b off, (0 < l.length → a = some ⟨b, off, none⟩) ∧ ∀ (i : Nat) (hi : i < l.length), w.cell? ⟨b, off + i, none⟩ = some (.int .i64 l[i]) := by
  obtain ⟨b, off, _, h2, h3⟩ := h.lie
  exact ⟨b, off, fun hl => h2 (by simpa using hl), fun i hi => h3 i _ (by rw [List.getElem?_map, List.getElem?_eq_getElem hi]; rfl)⟩

set_option maxRecDepth 100000 in
set_option maxHeartbeats 8000000 in
theorem code_any (vv rv xv : Value) (m : Md) (xs : List Int) (w : World) (h : IsMd w vv rv m) (ht : Tab w) (hp : m.Ok) (hx : Ints w xv xs) (hi64 : ∀ x ∈ xs, I64 x) :
    Calls Tryz.prog 72 #[.agg #[vv, rv], xv] w (CodeR m.vars xs w) := by
  have hE0 := ext_al (Ext.refl w) (Obj.cells #[vv, rv] 31)
  have HCK := Lib.hid (mcheck_ok vv rv m _ (h.ext hE0) (ht.ext hE0) hp)
  obtain ⟨av, cv, rfl, _, b, off, ha, hcells⟩ := h.vars.at
  obtain ⟨a, c, rfl⟩ := EachL.val h.rules
  have h6 := hp.six
  have hbk := blk_new w (Obj.cells #[.slice av m.vars.length cv, .slice a m.rules.length c] 31)
  have HB := Lib.hid hbk
  have HE := Lib.hid hE0
  have HA := Lib.hid ha
  have HC := Lib.hid hcells
  have HV := Lib.hid hp.vars
  have HN := Lib.hid hp.count
  obtain ⟨ax, cx, rfl, hrx⟩ := hx
  obtain ⟨bx, ox, hx1, hx2⟩ := ints_at' hrx
  have hxl : xs.length ≤ maxLen := Nat.le_trans hrx.le hrx.max
  unfold maxLen at hxl
  have HX1 := Lib.hid hx1
  have HX2 := Lib.hid hx2
  have HI := Lib.hid hi64
  clear h ha hcells hp ht hbk hE0 hrx hx1 hx2 hi64
  generalize m.rules.length = nr at *
  generalize m.vars = l at *
  have HPOST := Lib.hid (show CodeR l xs w = CodeR l xs w from rfl)
  go_enter Tryz.func72, Tryz.ntmps72
  have d0 := blk_cell HB.out (i := 0) (v := .slice av l.length cv) rfl
  have d1 := blk_cell HB.out (i := 1) (v := .slice a nr c) rfl
  go_wp2_with fail
  generalize w.alloc (Obj.cells #[.slice av l.length cv, .slice a nr c] 31) = W1 at *
  refine HCK.out.mono ?_
  rintro e w2 ⟨rfl, hE2⟩
  have d0 := cell_later hE2 d0
  have HE2 := Lib.hid (HE.out.trans hE2)
  clear hE2 HCK HB HE d1
  by_cases hlen : xs.length = l.length
  case neg =>
    have hl1 : ((xs.length : Int) == (l.length : Int)) = false := by rw [beq_eq_false_iff_ne]; omega
    have hl2 : ((xs.length : Int) != (l.length : Int)) = true := by rw [bne_iff_ne]; omega
    have HNI := Lib.hid (show ¬ InV l xs from fun h => hlen h.len)
    clear hlen
    go_wp2
    go_ret2
    exact ⟨0, 9, rfl, .inr ⟨HNI.out, rfl, rfl⟩, HE2.out⟩
  case pos =>
    have hl1 : ((xs.length : Int) == (l.length : Int)) = true := by rw [beq_iff_eq]; omega
    have hl2 : ((xs.length : Int) != (l.length : Int)) = false := by rw [bne_eq_false_iff_eq]; omega
    have HLEN := Lib.hid hlen
    clear hlen
    go_wp2_with fail
    clear d0 hl1 hl2
    go_loopg [7, 24] l.length (fun m x y wr => ∃ i : Nat, m + i = l.length ∧ y = .int .i64 (i : Int) ∧ x = .int .i64 (codeL (l.take i) (xs.take i) 0) ∧ InV (l.take i) (xs.take i) ∧ Ext w wr)
    case atStart => exact ⟨0, by omega, by go_num, by simp [codeL], by simp [InV], HE2.out⟩
    case round =>
      obtain ⟨i, hm, rfl, rfl, hI, hE⟩ := hrel
      have HM := Lib.hid hm
      have HIN := Lib.hid hI
      clear hm HE2
      by_cases hi : i < l.length
      · obtain rfl := HA.out (by omega)
        have hix : i < xs.length := by have := HLEN.out; omega
        obtain rfl := HX1.out (by omega)
        obtain ⟨c0, c1, c2, c3⟩ := HC.out i hi
        have hbx := HI.out xs[i] (by simp)
        unfold I64 at hbx
        have hx0 := ext_al (Ext.refl wr) (Obj.cells (vrc l[i]).toArray 89)
        simp only [vrc] at hx0
        have e0 := cell_later hE c0
        have e1 := cell_later hE c1
        have e2 := cell_later hE c2
        have e3 := cell_later hE c3
        have ex := cell_later (hE.trans hx0) (HX2.out i hix)
        have hbk := blk_new wr (Obj.cells (vrc l[i]).toArray 89)
        simp only [vrc] at hbk
        have f1 := blk_cell hbk (i := 1) (v := .int .i64 l[i].low) rfl
        have f2 := blk_cell hbk (i := 2) (v := .int .i64 l[i].high) rfl
        have hok := HV.out l[i] (by simp)
        have hbd := codeL_bd (l := l.take i) (fun v hv => HV.out v (List.mem_of_mem_take hv)) hI
        have hct := countL_take (l := l) HV.out i
        have hn4 := HN.out
        have HSN := Lib.hid (codeL_snoc hi hix 0)
        have o1 := hok.low
        have o2 := hok.high
        have o3 := hok.i0
        have o4 := hok.i1
        have o5 := hok.sp
        have HX := Lib.hid (hE.trans hx0)
        have hiI : (i : Int) < (l.length : Int) := by omega
        have hiX : (i : Int) < (xs.length : Int) := by omega
        have hi0 : (0 : Int) ≤ (i : Int) := by omega
        have HIO := Lib.hid fun (h : ¬ (l[i].low ≤ xs[i] ∧ xs[i] ≤ l[i].high)) => (show ¬ InV l xs from fun hI => h (hI.get i hi hix))
        have HIS := Lib.hid fun (h : l[i].low ≤ xs[i] ∧ xs[i] ≤ l[i].high) => hI.snoc hi hix h
        unfold Vr.span at HSN
        clear hE hx0 hbk hok hI c0 c1 c2 c3
        obtain ⟨cN, hcN⟩ : ∃ c, codeL (l.take (i + 1)) (xs.take (i + 1)) 0 = c := ⟨_, rfl⟩
        rw [hcN] at HSN
        have HCN := Lib.hid hcN
        clear hcN
        generalize codeL (l.take i) (xs.take i) 0 = cO at *
        go_upto_region 10 with fail
        generalize wr.alloc (Obj.cells #[.string l[i].name, .int .i64 l[i].low, .int .i64 l[i].high, .int .i64 l[i].init] 89) = W3 at *
        clear e0 e1 e2 e3
        generalize l[i].low = lo at *
        generalize l[i].high = hi' at *
        generalize xs[i] = x at *
        by_cases hb : lo ≤ x ∧ x ≤ hi'
        · have r1 : decide (x < lo) = false := by rw [decide_eq_false_iff_not]; omega
          have r2 : decide (hi' < x) = false := by rw [decide_eq_false_iff_not]; omega
          have HB := Lib.hid hb
          refine wp_region_quiet_lit (by kernel_rfl) (by kernel_rfl) (Shut.out ?_)
          repeat (refine hq_step (fun K hK => ?_); go_simp; refine hK _ ?_; clear hK K)
          refine hq_nil ?_
          rintro _ ⟨nq, rfl⟩
          have hN0 : cN = cO * (hi' - lo + 1) + x - lo := HSN.out
          have hm1 : 0 ≤ cO * (hi' - lo + 1) := Int.mul_nonneg (by omega) (by omega)
          have hm2 : cO * (hi' - lo + 1) ≤ 4096 * 64 := by
            exact Int.mul_le_mul (show cO ≤ 4096 by omega) (show hi' - lo + 1 ≤ 64 by omega) (by omega) (by omega)
          have w1 : IntKind.i64.wrap (hi' - lo) = hi' - lo := IntWalk.i64_in _ (by omega)
          have w2 : IntKind.i64.wrap (hi' - lo + 1) = hi' - lo + 1 := IntWalk.i64_in _ (by omega)
          have w3 : IntKind.i64.wrap (cO * (hi' - lo + 1)) = cO * (hi' - lo + 1) := IntWalk.i64_in _ (by omega)
          have w4 : IntKind.i64.wrap (cO * (hi' - lo + 1) + x) = cO * (hi' - lo + 1) + x := IntWalk.i64_in _ (by omega)
          have w5 : IntKind.i64.wrap (cO * (hi' - lo + 1) + x - lo) = cN := by rw [hN0]; exact IntWalk.i64_in _ (by omega)
          clear r1 r2 hb hN0
          go_upto_region 12 with fail
          go_quiet (fail)
          clear w1 w2 w3 w4 w5 hm1 hm2 ex f1 f2
          go_wp2_with fail
          go_roundg (gk - 1)
          case measure => have := HM.out; omega
          case rel => exact ⟨i + 1, by have := HM.out; omega, by go_num, by rw [HCN.out], HIS.out HB.out, below_drewN HX.out _⟩
        · have r0 : x < lo ∨ (¬ x < lo ∧ hi' < x) := by omega
          have HB := Lib.hid (HIO.out hb)
          clear hb
          rcases r0 with r1 | ⟨r1, r2⟩
          · have r1 : decide (x < lo) = true := by rw [decide_eq_true_eq]; exact r1
            refine wp_region_quiet_lit (by kernel_rfl) (by kernel_rfl) (Shut.out ?_)
            repeat (refine hq_step (fun K hK => ?_); go_simp; refine hK _ ?_; clear hK K)
            refine hq_nil ?_
            rintro _ ⟨nq, rfl⟩
            clear r1
            go_wp2
            go_ret2
            exact ⟨0, 9, rfl, .inr ⟨HB.out, rfl, rfl⟩, below_drewN HX.out nq⟩
          · have r1 : decide (x < lo) = false := by rw [decide_eq_false_iff_not]; exact r1
            have r2 : decide (hi' < x) = true := by rw [decide_eq_true_eq]; exact r2
            refine wp_region_quiet_lit (by kernel_rfl) (by kernel_rfl) (Shut.out ?_)
            repeat (refine hq_step (fun K hK => ?_); go_simp; refine hK _ ?_; clear hK K)
            refine hq_nil ?_
            rintro _ ⟨nq, rfl⟩
            clear r1 r2
            go_wp2
            go_ret2
            exact ⟨0, 9, rfl, .inr ⟨HB.out, rfl, rfl⟩, below_drewN HX.out nq⟩
      · have hI2 : InV l xs := by
          have := HIN.out
          rw [List.take_of_length_le (by omega), List.take_of_length_le (by have := HLEN.out; omega)] at this
          exact this
        have HTL := Lib.hid (show codeL (l.take i) (xs.take i) 0 = codeL l xs 0 by rw [List.take_of_length_le (by omega), List.take_of_length_le (by have := HLEN.out; omega)])
        have HI2 := Lib.hid hI2
        have HX := Lib.hid hE
        have hiI : ¬ (i : Int) < (l.length : Int) := by omega
        clear hI hE hI2
        go_wp2
        go_ret2
        exact ⟨_, 0, rfl, .inl ⟨HI2.out, HTL.out, rfl⟩, HX.out⟩

end Go.Proofs.YtbmimdnpchldlaaGreatDoor

namespace Go.Proofs.YtbmimdnpchldlaaGreatDoor
open Go.RowKit

theorem digL_drop {l : List Vr} {i : Nat} (h : i < l.length) (c : Int) : digL (l.drop i) c = ((l[i].low + (digL (l.drop (i + 1)) c).2 % l[i].span) :: (digL (l.drop (i + 1)) c).1, (digL (l.drop (i + 1)) c).2 / l[i].span) := by
  rw [List.drop_eq_getElem_cons h]; rfl

/-- What stands in the row while it is filled from its end. -/
def fillV (l : List Vr) (c : Int) (k : Nat) : List Int := List.replicate k 0 ++ (digL (l.drop k) c).1
theorem set_rep (V : List Int) (x : Int) : ∀ j, (List.replicate (j + 1) (0 : Int) ++ V).set j x = List.replicate j 0 ++ x :: V
  | 0 => rfl
  | j + 1 => by
    have := set_rep V x j
    rw [List.replicate_succ, List.cons_append, List.set_cons_succ, this]
    rfl
theorem fillV_step {l : List Vr} {j : Nat} (h : j < l.length) (c : Int) : (fillV l c (j + 1)).set j (l[j].low + (digL (l.drop (j + 1)) c).2 % l[j].span) = fillV l c j := by
  unfold fillV
  rw [set_rep, digL_drop h]
theorem fillV_len {l : List Vr} {k : Nat} (h : k ≤ l.length) (c : Int) : (fillV l c k).length = l.length := by
  unfold fillV
  rw [List.length_append, digL_len, List.length_replicate, List.length_drop]; omega
theorem set_mapI (l : List Int) (i : Nat) (x : Int) : (l.map (Value.int .i64)).set i (.int .i64 x) = (l.set i x).map (Value.int .i64) := by rw [List.map_set]

theorem digL_q {l : List Vr} (h : ∀ v ∈ l, v.Ok) (k : Nat) (c : Int) (hc : 0 ≤ c) : 0 ≤ (digL (l.drop k) c).2 ∧ (digL (l.drop k) c).2 ≤ c := by
  have hv : ∀ v ∈ l.drop k, v.Ok := fun v hv => h v (List.mem_of_mem_drop hv)
  refine ⟨digL_rest_pos hv c hc, ?_⟩
  rw [digL_rest hv c hc]
  exact Int.ediv_le_self _ hc

set_option maxRecDepth 100000 in
set_option maxHeartbeats 8000000 in
theorem values_any (vv rv : Value) (m : Md) (c : Int) (w : World) (h : IsMd w vv rv m) (ht : Tab w) (hp : m.Ok) (hc0 : 0 ≤ c) (hc1 : c < countL m.vars) :
    Calls Tryz.prog 52 #[.agg #[vv, rv], .int .i64 c] w fun e w' => ∃ v, e = .returned (.tuple #[v, .int .i64 0]) ∧ w'.ownsRow w.heap.size 3 1 v m.vars.length ((valsL m.vars c).map (.int .i64)) ∧ Ext w w' := by
  have hE0 := ext_al (Ext.refl w) (Obj.cells #[vv, rv] 31)
  have HCK := Lib.hid (count_any vv rv m _ (h.ext hE0) (ht.ext hE0) hp)
  obtain ⟨av, cv, rfl, _, b, off, ha, hcells⟩ := h.vars.at
  obtain ⟨a, c', rfl⟩ := EachL.val h.rules
  have h6 := hp.six
  have hbk := blk_new w (Obj.cells #[.slice av m.vars.length cv, .slice a m.rules.length c'] 31)
  have HB := Lib.hid hbk
  have HE := Lib.hid hE0
  have HA := Lib.hid ha
  have HC := Lib.hid hcells
  have HV := Lib.hid hp.vars
  have hn4 := hp.count
  clear h ha hcells hp ht hbk hE0
  generalize m.rules.length = nr at *
  generalize m.vars = l at *
  generalize countL l = N at *
  go_enter Tryz.func52, Tryz.ntmps52
  have d0 := blk_cell HB.out (i := 0) (v := .slice av l.length cv) rfl
  have d1 := blk_cell HB.out (i := 1) (v := .slice a nr c') rfl
  go_wp2_with fail
  generalize w.alloc (Obj.cells #[.slice av l.length cv, .slice a nr c'] 31) = W1 at *
  refine HCK.out.mono ?_
  rintro e w2 ⟨rfl, hE2⟩
  have d0 := cell_later hE2 d0
  have HB2 := Lib.hid (blk_ext HB.out hE2)
  have HE2 := Lib.hid (HE.out.trans hE2)
  have hs2 := HE2.out.size
  clear hE2 HCK HB HE d1
  go_wp2_with (at_make; go_must (refine wpList_make_full _ rfl _ _ 27 rfl w2.heap.size 3 (Tryz.slInts.inf.choose) (.int .i64 0) 1 Tryz.underlying27 Tryz.slInts.inf.choose_spec.1 Tryz.slInts.inf.choose_spec.2.1 Tryz.slInts.inf.choose_spec.2.2.1 .i64 .i64 l.length l.length l.length rfl rfl rfl rfl (by rw [Tryz.slInts.inf.choose_spec.2.2.2]; omega) (by unfold maxLen; omega) (Nat.le_refl _) ?_))
  intro w3 hown3 hg3
  have hmx : (madeCells #[Value.int .i64 0] l.length).toList = (fillV l c l.length).map (.int .i64) := by
    rw [toList_madeCells_one, fillV, List.drop_length]
    simp [digL]
  rw [hmx] at hown3
  have HO3 := Lib.hid hown3
  have hx3 : Ext w2 w3 := (Ext.refl w2).grown hg3 (Nat.le_refl _) (by simp)
  have HB3 := Lib.hid (blk_ext HB2.out hx3)
  have d0 := cell_later hx3 d0
  have HE3 := Lib.hid (HE2.out.trans hx3)
  obtain ⟨D, hD⟩ : ∃ D, w2.heap.size = D := ⟨_, rfl⟩
  rw [hD] at HO3 hs2 ⊢
  have hs3 := blk_lt HB2.out
  rw [hD] at hs3
  have hl0 := digL_q HV.out l.length c hc0
  have HQ0 := Lib.hid (show (digL (l.drop l.length) c).2 = c by rw [List.drop_length]; rfl)
  clear hown3 hg3 hmx hx3 HB2 HE2 hD
  go_wp2_with fail
  clear d0
  go_loopg [1, 9] l.length (fun k x y wr => ∃ i : Int, i + 1 = (k : Int) ∧ k ≤ l.length ∧ y = .int .i64 i ∧ x = .int .i64 (digL (l.drop k) c).2 ∧ Ext w wr ∧ wr.heap[w.heap.size]? = some (.cells #[.slice av l.length cv, .slice a nr c'] 31 (0, 0)) ∧ wr.ownsRow D 3 1 (.slice (some ⟨D, 0, none⟩) l.length l.length) l.length ((fillV l c k).map (.int .i64)))
  case atStart => exact ⟨(l.length : Int) - 1, by omega, Nat.le_refl _, rfl, by rw [HQ0.out], HE3.out, HB3.out, HO3.out⟩
  case round =>
    obtain ⟨i, hik, hkl, rfl, rfl, hE, hB, hO⟩ := hrel
    clear HO3 HE3 HB3 HQ0
    have HIK := Lib.hid hik
    by_cases hi : 0 ≤ i
    · obtain ⟨j, rfl⟩ : ∃ j : Nat, i = (j : Int) := ⟨i.toNat, by omega⟩
      obtain rfl : gk = j + 1 := by omega
      have hjl : j < l.length := by omega
      obtain rfl := HA.out (by omega)
      obtain ⟨c0, c1, c2, c3⟩ := HC.out j hjl
      have d0 := blk_cell hB (i := 0) (v := .slice (some ⟨b, off, none⟩) l.length cv) rfl
      have c0 := cell_later hE c0
      have c1 := cell_later hE c1
      have c2 := cell_later hE c2
      have c3 := cell_later hE c3
      have hx0 := ext_al (Ext.refl wr) (Obj.cells (vrc l[j]).toArray 89)
      simp only [vrc] at hx0
      have hbk := blk_new wr (Obj.cells (vrc l[j]).toArray 89)
      simp only [vrc] at hbk
      have f1 := blk_cell hbk (i := 1) (v := .int .i64 l[j].low) rfl
      have f2 := blk_cell hbk (i := 2) (v := .int .i64 l[j].high) rfl
      have hq := digL_q HV.out (j + 1) c hc0
      have hok := HV.out l[j] (by simp)
      have o1 := hok.low
      have o2 := hok.high
      have o3 := hok.i0
      have o4 := hok.i1
      have o5 := hok.sp
      have HST := Lib.hid (fillV_step hjl c)
      have HDG := Lib.hid (show (digL (l.drop j) c).2 = (digL (l.drop (j + 1)) c).2 / l[j].span by rw [digL_drop hjl])
      have hO2 := own_ext hO hx0
      have hB2 := blk_ext hB hx0
      have HX := Lib.hid (hE.trans hx0)
      have HO2 := Lib.hid hO2
      have HB2 := Lib.hid hB2
      have fr := own_freeAt hO2 j
      have hDl := (hO2.lt D rfl)
      have hwl := blk_lt hB2
      have hfl := fillV_len (l := l) (k := j + 1) (by omega) c
      obtain ⟨ur, cr⟩ : ∃ u, (wr.alloc (Obj.cells #[.string l[j].name, .int .i64 l[j].low, .int .i64 l[j].high, .int .i64 l[j].init] 89)).cell? ⟨D, j, none⟩ = some u := ⟨_, own_cellAt hO2 (i := j) (by rw [List.length_map, hfl]; exact hjl)⟩
      have hiI : (j : Int) < (l.length : Int) := by omega
      have hj0 : (0 : Int) ≤ (j : Int) := by omega
      obtain ⟨q, hqe⟩ : ∃ q, (digL (l.drop (j + 1)) c).2 = q := ⟨_, rfl⟩
      obtain ⟨r, hre⟩ : ∃ r, (digL (l.drop j) c).2 = r := ⟨_, rfl⟩
      rw [hqe] at hq HST HDG
      rw [hre] at HDG
      rw [hqe]
      have HRE := Lib.hid hre
      unfold Vr.span at HST HDG
      clear hE hB hO hO2 hB2 hbk hok hik hx0 hfl hqe hre
      go_upto_region 11 with fail
      generalize wr.alloc (Obj.cells #[.string l[j].name, .int .i64 l[j].low, .int .i64 l[j].high, .int .i64 l[j].init] 89) = W3 at *
      clear c0 c1 c2 c3 d0
      generalize l[j].low = lo at *
      generalize l[j].high = hi' at *
      go_upto_region 12 with fail
      have hsp : 0 < hi' - lo + 1 := by omega
      have em0 := Int.emod_nonneg q (show hi' - lo + 1 ≠ 0 by omega)
      have em1 := Int.emod_lt_of_pos q hsp
      have t1 : q.tmod (hi' - lo + 1) = q % (hi' - lo + 1) := Int.tmod_eq_emod_of_nonneg hq.1
      have t2 : IntKind.i64.wrap (q % (hi' - lo + 1)) = q % (hi' - lo + 1) := IntWalk.i64_in _ (by omega)
      have t3 : IntKind.i64.wrap (lo + q % (hi' - lo + 1)) = lo + q % (hi' - lo + 1) := IntWalk.i64_in _ (by omega)
      have HT2 := Lib.hid t2
      go_region
      have hO5 := own_setAt HO2.out (i := j) (.int .i64 (lo + q % (hi' - lo + 1)))
      rw [set_mapI, HST.out] at hO5
      have hDw : D ≠ w.heap.size := by omega
      have hB5 := blk_far HB2.out (p := ⟨D, j, none⟩) hDw (.int .i64 (lo + q % (hi' - lo + 1)))
      have hE5 := ext_st HX.out (p := ⟨D, j, none⟩) (by show w.heap.size ≤ D; omega) (.int .i64 (lo + q % (hi' - lo + 1)))
      have hd : Ext (W3.setCell ⟨D, j, none⟩ (.int .i64 (lo + q % (hi' - lo + 1)))) (W3.setCell ⟨D, j, none⟩ (.int .i64 (lo + q % (hi' - lo + 1)))).drew := Below.drew (Ext.refl _)
      have HO5 := Lib.hid (own_ext hO5 hd)
      have HB5 := Lib.hid (blk_ext hB5 hd)
      have HE5 := Lib.hid (hE5.trans hd)
      clear hO5 hB5 hE5 hd t1 t2 t3 em0 em1 f1 f2 fr cr
      generalize (W3.setCell ⟨D, j, none⟩ (.int .i64 (lo + q % (hi' - lo + 1)))).drew = W5 at *
      go_wp2_with fail
      go_roundg j
      case measure => omega
      case rel => exact ⟨(j : Int) - 1, by omega, by omega, rfl, by rw [HRE.out, HDG.out], HE5.out, HB5.out, HO5.out⟩
    · have hik0 : gk = 0 := by omega
      subst hik0
      have HX := Lib.hid hE
      have HO := Lib.hid hO
      have HFV := Lib.hid (show fillV l c 0 = valsL l c by unfold fillV valsL; simp)
      have hneg : i < 0 := by omega
      rw [HFV.out] at HO
      clear hE hB hO hik
      go_wp2
      go_ret2
      exact ⟨_, rfl, own_down HO.out (by omega), HX.out⟩

end Go.Proofs.YtbmimdnpchldlaaGreatDoor

namespace Go.Proofs.YtbmimdnpchldlaaGreatDoor

def sortL (l : List Int) : List Int := l.mergeSort fun x y => decide (x ≤ y)
theorem sortL_len (l : List Int) : (sortL l).length = l.length := List.length_mergeSort l
theorem sortL_mem (l : List Int) (x : Int) : x ∈ sortL l ↔ x ∈ l := List.mem_mergeSort
theorem sortL_up (l : List Int) : (sortL l).Pairwise (· ≤ ·) := by
  have h := List.pairwise_mergeSort (le := fun x y : Int => decide (x ≤ y)) (fun a b c h1 h2 => by simp at *; omega) (fun a b => by simp; omega) l
  exact h.imp fun h => by simpa using h
theorem sortL_perm (l : List Int) : (sortL l).Perm l := List.mergeSort_perm l _

end Go.Proofs.YtbmimdnpchldlaaGreatDoor

namespace Go.Proofs.YtbmimdnpchldlaaGreatDoor
open Go.RowKit Go.Sort Go.Lib

theorem sortI_any (v : Value) (l : List Int) (base : Nat) (w : World) (h : w.ownsRow base 3 1 v l.length (l.map (.int .i64))) (hl : l.length ≤ 1048576) :
    Calls Tryz.prog 104 #[v] w fun e w' => e = .returned (.tuple #[]) ∧ w'.ownsRow base 3 1 v l.length ((sortL l).map (.int .i64)) ∧ w.grownBy w' v.ownBlock := by
  rcases h.2 with ⟨rfl, h0⟩ | ⟨g, cap, cur, rfl, hg, hc, hn, hcm, hcs, ht⟩
  · obtain rfl : l = [] := List.eq_nil_of_length_eq_zero h0
    refine (Tryz.slices_Sort_int_none none 0 w).mono ?_
    rintro e w' ⟨rfl, rfl⟩
    have e : sortL [] = [] := List.eq_nil_of_length_eq_zero (by rw [sortL_len]; rfl)
    rw [e]
    exact ⟨rfl, h, ⟨rfl, rfl, rfl, Nat.le_refl _, fun _ _ _ => rfl⟩⟩
  · refine (Tryz.slices_Sort_int g 0 cap l w (holds_of_blockI hc (by simpa using ht)) (Array.getElem?_eq_some_iff.1 hc).1 (by omega)).mono ?_
    rintro e w' ⟨rfl, n, os, rfl⟩
    exact ⟨rfl, ownsRow_sortedI (sortL_len l) hg hc hn hcm hcs, grownBy_sortedI _⟩

end Go.Proofs.YtbmimdnpchldlaaGreatDoor
