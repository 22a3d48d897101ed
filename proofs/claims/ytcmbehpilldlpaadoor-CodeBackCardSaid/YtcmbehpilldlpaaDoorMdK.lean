/- The contracts of model.First, step.next, step.Next. -/
import Derived.Test.YtcmbehpilldlpaaDoorMdJ
import Derived.Test.YtcmbehpilldlpaaDoorSrt
namespace Go.Proofs.YtcmbehpilldlpaaDoor
open Go.RowKit

theorem Row.oneM (w : World) (t : TypeId) (x : Value) (k : Nat) (hk : k = w.heap.size) : Row (w.alloc (.cells #[x] t)) 1 (some ⟨k, 0, none⟩) 1 1 [x] := by subst hk; exact Row.one w t x

theorem inits_in {l : List Vr} (h : ∀ v ∈ l, v.Ok) : InV l (l.map (·.init)) := by
  refine InV.of (by simp) fun i hi h2 => ?_
  rw [List.getElem_map]
  have := h l[i] (by simp)
  exact ⟨this.i0, this.i1⟩
def initL (l : List Vr) (i : Nat) : List Value := ((l.take i).map (·.init)).map (.int .i64)
theorem initL_succ {l : List Vr} {i : Nat} (hi : i < l.length) : initL l (i + 1) = initL l i ++ [.int .i64 l[i].init] := by
  unfold initL
  rw [List.take_succ_eq_append_getElem hi, List.map_append, List.map_append]; rfl
theorem initL_all (l : List Vr) : initL l l.length = (l.map (·.init)).map (.int .i64) := by unfold initL; rw [List.take_length]
/-- The first state. -/
def Md.first (m : Md) : Int := codeL m.vars (m.vars.map (·.init)) 0

set_option maxRecDepth 100000 in
set_option maxHeartbeats 8000000 in
theorem first_any (vv rv : Value) (m : Md) (w : World) (h : IsMd w vv rv m) (ht : Tab w) (hp : m.Ok) :
    Calls Tryd.prog 21 #[.agg #[vv, rv]] w fun e w' => e = .returned (.tuple #[.int .i64 m.first, .int .i64 0]) ∧ Ext w w' := by
  have HCO := Lib.hid fun wx (xv : Value) (hx : Ext w wx) (hi : Ints wx xv (m.vars.map (·.init))) => code_any vv rv xv m (m.vars.map (·.init)) wx (h.ext hx) (ht.ext hx) hp hi (by
    intro x hx
    obtain ⟨v, hv, rfl⟩ := List.mem_map.1 hx
    have := hp.vars v hv
    have h1 := this.i0; have h2 := this.i1; have h3 := this.low; have h4 := this.high
    unfold I64; omega)
  have HIN := Lib.hid (inits_in hp.vars)
  have HF := Lib.hid (show m.first = codeL m.vars (m.vars.map (·.init)) 0 from rfl)
  obtain ⟨av, cv, rfl, _, b, off, ha, hcells⟩ := h.vars.at
  obtain ⟨a, c, rfl⟩ := EachL.val h.rules
  have h6 := hp.six
  have hbk := blk_new w (Obj.cells #[.slice av m.vars.length cv, .slice a m.rules.length c] 29)
  have hE0 := ext_al (Ext.refl w) (Obj.cells #[.slice av m.vars.length cv, .slice a m.rules.length c] 29)
  have HA := Lib.hid ha
  have HC := Lib.hid hcells
  have HV := Lib.hid hp.vars
  generalize m.first = fi at *
  clear h ha hcells hp ht
  generalize m.rules.length = nr at *
  generalize m.vars = l at *
  go_enter Tryd.func21, Tryd.ntmps21
  have d0 := blk_cell hbk (i := 0) (v := .slice av l.length cv) rfl
  have HB := Lib.hid hbk
  have HE := Lib.hid hE0
  clear hbk hE0
  go_wp2_with fail
  generalize w.alloc (Obj.cells #[.slice av l.length cv, .slice a nr c] 29) = W1 at *
  clear d0
  have HO0 := Lib.hid (show W1.ownsRow W1.heap.size 3 1 (.slice none 0 0) 0 [] from World.ownsRow_nil _ _ _ _)
  go_loopg [10, 4] l.length (fun k x s wr => ∃ (i : Nat) (as' : Option Addr) (cs' : Nat), k + i = l.length ∧ x = .int .i64 (i : Int) ∧ s = .slice as' i cs' ∧ Ext W1 wr ∧ wr.ownsRow W1.heap.size 3 1 (.slice as' i cs') i (initL l i))
  case atStart => exact ⟨0, none, 0, by omega, by go_num, rfl, Ext.refl _, HO0.out⟩
  case round =>
    obtain ⟨i, as', cs', hki, rfl, rfl, hE, hO⟩ := hrel
    clear HO0
    have HKI := Lib.hid hki
    have HX := Lib.hid hE
    by_cases hi : i < l.length
    · obtain rfl := HA.out (by omega)
      obtain ⟨v0, v1, v2, v3⟩ := HC.out i hi
      have v0 := cell_later (HE.out.trans hE) v0
      have v1 := cell_later (HE.out.trans hE) v1
      have v2 := cell_later (HE.out.trans hE) v2
      have v3 := cell_later (HE.out.trans hE) v3
      have hiI : (i : Int) < (l.length : Int) := by omega
      have hi0 : (0 : Int) ≤ (i : Int) := by omega
      have HO2 := Lib.hid fun (o1 o2 : Obj) => own_ext hO ((ext_al (Ext.refl wr) o1).trans (ext_al (Ext.refl (wr.alloc o1)) o2))
      have hws := hE.size
      have HTI := Lib.hid (initL_succ hi)
      clear hE hO hki
      go_wp2_with (at_builtin; go_must (refine wpl_append rfl rfl Tryd.slInts W1.heap.size rfl (HO2.out _ _) rfl (Row.oneM _ _ _ _ (by simp)) (one_int _) (by unfold maxLen; omega) (by omega) (by simp; omega) ?_))
      intro v6 w6 hown6 hg6 hb6 _
      obtain ⟨a6, c6, rfl, _⟩ := hown6.row
      have HO6 := Lib.hid hown6
      have HE6 := Lib.hid (show Ext W1 w6 from Below.grown (HX.out.trans ((ext_al (Ext.refl wr) _).trans (ext_al (Ext.refl (wr.alloc _)) _))) hg6 (by simp; omega) (fun b hb => (HO2.out (Obj.cells #[] 0) (Obj.cells #[] 0)).lt b hb |>.1))
      clear hown6 hg6 hb6
      go_wp2_with fail
      go_roundg (gk - 1)
      case measure => have := HKI.out; omega
      case rel => exact ⟨i + 1, a6, c6, by have := HKI.out; omega, by go_num, rfl, HE6.out, by rw [HTI.out]; exact HO6.out⟩
    · obtain rfl : i = l.length := by omega
      have hiI : ¬ (l.length : Int) < (l.length : Int) := by omega
      have hO2 := hO
      rw [initL_all] at hO2
      have hr := hO2.reads
      have hii : Ints wr (.slice as' l.length cs') (l.map (·.init)) := by
        unfold Ints
        rw [List.length_map]
        exact hr
      have HCC := Lib.hid (HCO.out wr _ (HE.out.trans hE) hii)
      have HWX := Lib.hid (HE.out.trans hE)
      have d0 := blk_cell (blk_ext HB.out hE) (i := 0) (v := .slice av l.length cv) rfl
      have d1 := blk_cell (blk_ext HB.out hE) (i := 1) (v := .slice a nr c) rfl
      clear hE hO hki hO2 hr hii HCO
      go_wp2_with fail
      refine HCC.out.mono ?_
      rintro e w5 ⟨n, k, rfl, hce, hE5⟩
      obtain ⟨rfl, rfl⟩ : n = fi ∧ k = 0 := by
        rcases hce with ⟨_, h1, h2⟩ | ⟨h1, _⟩
        · exact ⟨h1.trans HF.out.symm, h2⟩
        · exact absurd HIN.out h1
      have HE5 := Lib.hid (HWX.out.trans hE5)
      clear hce hE5
      go_wp2
      go_ret2
      exact ⟨rfl, HE5.out⟩

end Go.Proofs.YtcmbehpilldlpaaDoor
