/- The contracts of step.After, model.Props, step.Letter. -/
import Derived.Test.YtopkbjfjncpjdaaDoorMdV
import Derived.Deep.RegionLaw
namespace Go.Proofs.YtopkbjfjncpjdaaDoor
open Go.RowKit
def AfterS (r : Option (List Int)) (w : World) (v : Value) (b : Bool) (w' : World) : Prop :=
  Ext w w' ∧ ((r = none ∧ v = .slice none 0 0 ∧ b = false) ∨ ∃ (ys : List Int), r = some ys ∧ b = true ∧ w'.ownsRow w.heap.size 3 1 v ys.length (ys.map (.int .i64)))
theorem AfterR.same {r : Option (List Int)} {w w' : World} {e : Ending} (h : AfterR r w e w') : ∃ a n c b, e = .returned (.tuple #[.slice a n c, .bool b]) ∧ AfterS r w (.slice a n c) b w' := by
  obtain ⟨hE, ⟨rfl, rfl⟩ | ⟨ys, v, rfl, rfl, ho⟩⟩ := h
  · exact ⟨_, _, _, _, rfl, hE, .inl ⟨rfl, rfl, rfl⟩⟩
  · obtain ⟨a, c, rfl, _⟩ := ho.row
    exact ⟨_, _, _, _, rfl, hE, .inr ⟨ys, rfl, rfl, ho⟩⟩
def aftN (m : Md) (o : Option (List Int)) : Int := o.elim 0 fun ys => codeL m.vars ys 0
def aftE (o : Option (List Int)) : Int := o.elim 11 fun _ => 0
set_option maxRecDepth 100000 in
set_option maxHeartbeats 8000000 in
theorem afterE_any (vv rv : Value) (m : Md) (c : Int) (r : Nat) (w : World) (h : IsMd w vv rv m) (ht : Tab w) (hp : m.Ok) (h0 : 0 < m.vars.length) (hc0 : 0 ≤ c) (hc1 : c < countL m.vars) (hr : r < m.rules.length) :
    Calls Tryd.prog 8 #[.agg #[vv, rv], .int .i64 c, .int .i64 (r : Int)] w fun e w' => e = .returned (.tuple #[.int .i64 (aftN m (afterV m m.rules[r] (valsL m.vars c))), .int .i64 (aftE (afterV m m.rules[r] (valsL m.vars c)))]) ∧ Ext w w' := by
  have hvi := digL_in hp.vars c
  have hvl := valsL_len m.vars c
  have HVA := Lib.hid fun wx (hx : Ext w wx) => values_any vv rv m c wx (h.ext hx) (ht.ext hx) hp hc0 hc1
  have HCO := Lib.hid fun (v : Value) (ys : List Int) wx (hx' : Ext w wx) (hy : Ints wx v ys) (hb : InV m.vars ys) => code_any vv rv v m ys wx (h.ext hx') (ht.ext hx') hp hy (fun x hxy => by
    have := inV_small hp.vars hb x hxy
    unfold I64; omega)
  have HIN := Lib.hid fun (ys : List Int) (he : afterV m m.rules[r] (valsL m.vars c) = some ys) => afterV_in (hp.rules m.rules[r] (by simp)) hvi he
  have h12 := hp.twelve
  obtain ⟨ar, cr, rfl, _, b, off, ha, hcells⟩ := h.rules.at
  obtain rfl := ha (by omega)
  obtain ⟨g, s, c0, c1, hg, hs⟩ := hcells r hr
  have HAF := Lib.hid fun wx (xv : Value) (hx' : Ext w wx) (hi : Ints wx xv (valsL m.vars c)) => after_any vv (.slice (some ⟨b, off, none⟩) m.rules.length cr) g s xv m m.rules[r] (valsL m.vars c) wx (h.vars.ext hx') ⟨_, _, _, rfl⟩ (hg.ext hx') (hs.ext hx') (ht.ext hx') hp.vars hp.six h0 (hp.rules _ (by simp)) hi hvi
  obtain ⟨av, cv, rfl⟩ := EachL.val h.vars
  obtain ⟨ag, ng, cg, rfl⟩ := hg.val
  obtain ⟨as', cs', rfl⟩ := EachL.val hs
  have hbk := blk_new w (Obj.cells #[.slice av m.vars.length cv, .slice (some ⟨b, off, none⟩) m.rules.length cr] 29)
  have HE := Lib.hid (ext_al (Ext.refl w) (Obj.cells #[.slice av m.vars.length cv, .slice (some ⟨b, off, none⟩) m.rules.length cr] 29))
  have HB := Lib.hid hbk
  have HC0 := Lib.hid c0
  have HC1 := Lib.hid c1
  clear h ht hp hvi hcells hg hs ha c0 c1 hbk
  generalize m.rules[r].sets.length = ns at *
  generalize afterV m m.rules[r] (valsL m.vars c) = R at *
  generalize valsL m.vars c = xs at *
  have hrI : (r : Int) < (m.rules.length : Int) := by omega
  have hr0 : (0 : Int) ≤ (r : Int) := by omega
  generalize m.rules.length = nr at *
  obtain ⟨nv, hnv⟩ : ∃ n, m.vars.length = n := ⟨_, rfl⟩
  rw [hnv] at HVA HCO HAF HB HE h0 hvl ⊢
  go_enter Tryd.func8, Tryd.ntmps8
  go_wp2_with fail
  clear hnv
  generalize w.alloc (Obj.cells #[.slice av nv cv, .slice (some ⟨b, off, none⟩) nr cr] 29) = W1 at *
  refine (HVA.out _ HE.out).mono ?_
  rintro e w2 ⟨xv, rfl, hox, hE2⟩
  have HE2 := Lib.hid (HE.out.trans hE2)
  have HB2 := Lib.hid (blk_ext HB.out hE2)
  have HAC := Lib.hid fun wx (hx : Ext w2 wx) => HAF.out wx xv (HE2.out.trans hx) ((show Ints w2 xv xs from by
    unfold Ints
    rw [hvl]
    exact hox.reads).ext hx)
  have d0 := blk_cell HB2.out (i := 0) rfl
  have d1 := blk_cell HB2.out (i := 1) rfl
  have k0 := cell_later HE2.out HC0.out
  have k1 := cell_later HE2.out HC1.out
  obtain ⟨ax, cx, rfl, _⟩ := hox.row
  clear hox hE2 HVA HAF HB HE HC0 HC1
  go_upto_region 6 with fail
  go_cut [10, 11] (fun s10 s11 wx => ∃ a n c b, s10 = .slice a n c ∧ s11 = .bool b ∧ AfterS R w2.drew (.slice a n c) b wx)
  case first =>
    go_region_law (go_simp
                   go_at_call 15
                   refine (HAC.out _ (Below.drew (Ext.refl _))).mono ?_
                   intro e w4 hA
                   obtain ⟨a4, n4, c4, b4, rfl, hS⟩ := hA.same
                   have HS4 := Lib.hid hS
                   clear hA hS)
    all_goals
      go_wp2_with fail
      go_meet
      exact ⟨_, _, _, _, rfl, rfl, HS4.out⟩
  case rest =>
    obtain ⟨a4, n4, c4, b4, rfl, rfl, hS⟩ := hcut
    obtain ⟨hE4', hor⟩ := hS
    have hE4 := Ext.trans (Below.drew (Ext.refl w2)) hE4'
    clear hE4'
    rcases hor with ⟨rfl, h1, rfl⟩ | ⟨ys, rfl, rfl, hown4⟩
    · have HX := Lib.hid (HE2.out.trans hE4)
      clear hE4 h1
      go_wp2
      go_ret2
      exact ⟨rfl, HX.out⟩
    · have hys := hown4.row
      obtain ⟨_, _, e0, _⟩ := hys
      obtain rfl : n4 = ys.length := by simp only [Value.slice.injEq] at e0; exact e0.2.1
      clear e0
      have HX := Lib.hid (HE2.out.trans hE4)
      have HYI := Lib.hid (HIN.out ys rfl)
      have HCC := Lib.hid (HCO.out _ ys wc HX.out (show Ints wc (.slice a4 ys.length c4) ys from hown4.reads) HYI.out)
      have d0 := blk_cell (blk_ext HB2.out hE4) (i := 0) rfl
      have d1 := blk_cell (blk_ext HB2.out hE4) (i := 1) rfl
      clear hE4 hown4 HCO HIN HAC k0 k1
      go_wp2_with fail
      refine HCC.out.mono ?_
      rintro e w5 ⟨n, k, rfl, hce, hE5⟩
      obtain ⟨hnn, rfl⟩ : n = codeL m.vars ys 0 ∧ k = 0 := by
        rcases hce with ⟨_, h1, h2⟩ | ⟨h1, _⟩
        · exact ⟨h1, h2⟩
        · exact absurd HYI.out h1
      have HNN := Lib.hid hnn
      have HE5 := Lib.hid (HX.out.trans hE5)
      clear hce hnn hE5
      go_wp2
      go_ret2
      exact ⟨by rw [HNN.out]; rfl, HE5.out⟩
set_option maxRecDepth 100000 in
set_option maxHeartbeats 8000000 in
theorem afterE_out (vv rv : Value) (m : Md) (c : Int) (r : Int) (w : World) (h : IsMd w vv rv m) (ht : Tab w) (hp : m.Ok) (hc0 : 0 ≤ c) (hc1 : c < countL m.vars) (hr : (m.rules.length : Int) ≤ r) :
    Calls Tryd.prog 8 #[.agg #[vv, rv], .int .i64 c, .int .i64 r] w fun e w' => e = .returned (.tuple #[.int .i64 0, .int .i64 2]) ∧ Ext w w' := by
  have HVA := Lib.hid fun wx (hx : Ext w wx) => values_any vv rv m c wx (h.ext hx) (ht.ext hx) hp hc0 hc1
  obtain ⟨av, cv, rfl⟩ := EachL.val h.vars
  obtain ⟨a, cr, rfl⟩ := EachL.val h.rules
  have hbk := blk_new w (Obj.cells #[.slice av m.vars.length cv, .slice a m.rules.length cr] 29)
  have HE := Lib.hid (ext_al (Ext.refl w) (Obj.cells #[.slice av m.vars.length cv, .slice a m.rules.length cr] 29))
  have HB := Lib.hid hbk
  have h12 := hp.twelve
  clear h ht hp hbk
  generalize valsL m.vars c = xs at *
  generalize m.rules.length = nr at *
  generalize m.vars.length = nv at *
  have hr0 : ¬ r < 0 := by omega
  go_enter Tryd.func8, Tryd.ntmps8
  go_wp2_with fail
  generalize w.alloc (Obj.cells #[.slice av nv cv, .slice a nr cr] 29) = W1 at *
  refine (HVA.out _ HE.out).mono ?_
  rintro e w2 ⟨xv, rfl, hox, hE2⟩
  have HE2 := Lib.hid (HE.out.trans hE2)
  have d1 := blk_cell (blk_ext HB.out hE2) (i := 1) rfl
  obtain ⟨ax, cx, rfl, _⟩ := hox.row
  clear hox hE2 HVA HB HE
  go_wp2
  go_ret2
  exact ⟨rfl, HE2.out⟩
end Go.Proofs.YtopkbjfjncpjdaaDoor
