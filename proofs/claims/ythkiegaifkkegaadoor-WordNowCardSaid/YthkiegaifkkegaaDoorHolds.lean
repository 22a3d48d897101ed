/- Holds: what is needed of it. No condition. -/
import Derived.Test.YthkiegaifkkegaaDoorOpen
import Derived.Test.YthkiegaifkkegaaDoorJoinG
namespace Go.Proofs.YthkiegaifkkegaaDoor
open Go.RowKit
structure IsW (w : World) (sv lv : Value) (Sm Lp : List (List Bool)) : Prop where
  st : BLists w sv Sm
  lp : BLists w lv Lp
theorem IsW.ext {w w' : World} {sv lv : Value} {Sm Lp : List (List Bool)} (h : IsW w sv lv Sm Lp) (hE : Ext w w') : IsW w' sv lv Sm Lp := ⟨h.st.ext hE, h.lp.ext hE⟩
structure WdOk (Sm Lp : List (List Bool)) (props : Nat) : Prop where
  s12 : Sm.length ≤ 12
  l1 : 1 ≤ Lp.length
  l12 : Lp.length ≤ 12
  let' : ∀ x ∈ Sm ++ Lp, x.length = props
set_option maxRecDepth 100000 in
set_option maxHeartbeats 2000000 in
theorem moments_any (v sv lv : Value) (t : Tm) (Sm Lp : List (List Bool)) (props : Nat) (w : World) (h : IsT w v t) (ht : Tab w) (hf : IsF t.flat (props : Int) t) (hw : IsW w sv lv Sm Lp) (ho : WdOk Sm Lp props) (n : Nat) (hn : (Sm ++ Lp).length = n) :
    Calls Tryd.prog 8 #[v, .agg #[sv, lv], .int .i64 (props : Int)] w fun e w' => ∃ R, e = .returned (.tuple #[.slice (some ⟨R, 0, none⟩) n n, .int .i64 0]) ∧ w'.ownsRow w.heap.size 4 1 (.slice (some ⟨R, 0, none⟩) n n) n (rowF n (satB ⟨Sm ++ Lp, Sm.length⟩ t)) ∧ Ext w w' := by
  have hx := ext_al (Ext.refl w) (Obj.cells #[sv, lv] 28)
  have HOP := Lib.hid (open_any v sv lv t.flat t Sm Lp props _ (ops_ext h hx) (ht.ext hx) hf (hw.st.ext hx) (hw.lp.ext hx) ho.s12 ho.l1 ho.l12 ho.let')
  have HX := Lib.hid hx
  have hpos : 0 < t.flat.length := by rw [Tm.flat_len]; exact t.size_pos
  have hl60 : t.flat.length ≤ 60 := by rw [Tm.flat_len]; exact hf.small
  have HH := Lib.hid (subs_head t)
  obtain ⟨xs, hES, aS, cS, rfl, hrS⟩ := hw.st
  obtain ⟨ys, hEL, aL, cL, rfl, hrL⟩ := hw.lp
  have HNN := Lib.hid hn
  clear hx h ht hf hw ho hES hrS hEL hrL hn
  go_enter Tryd.func8, Tryd.ntmps8
  go_wp2_with fail
  refine HOP.out.mono ?_
  rintro e w1 ⟨T, rfl, hT⟩
  obtain ⟨RB, fv, ev, al, cl, hb, hrows⟩ := hT.row
  obtain ⟨R, h1, h2⟩ := hrows 0 t HH.out
  have HO := Lib.hid (own_down h2 HX.out.size)
  have HE := Lib.hid (HX.out.trans hT.ext)
  have c4 : w1.cell? ⟨T, 4, none⟩ = some (.slice (some ⟨RB, 0, none⟩) t.flat.length t.flat.length) := blk_cell hb (i := 4) rfl
  have hn : (Wd.mk (Sm ++ Lp) Sm.length).n = n := HNN.out
  rw [hn] at h1 HO
  have hposI : (0 : Int) < (t.flat.length : Int) := by omega
  clear hb hrows hT h2 hn HOP
  go_wp2
  go_ret2
  exact ⟨R, rfl, HO.out, HE.out⟩
set_option maxRecDepth 100000 in
set_option maxHeartbeats 2000000 in
theorem wholds_any (v sv lv : Value) (t : Tm) (Sm Lp : List (List Bool)) (props : Nat) (w : World) (h : IsT w v t) (ht : Tab w) (hf : IsF t.flat (props : Int) t) (hw : IsW w sv lv Sm Lp) (ho : WdOk Sm Lp props) :
    Calls Tryd.prog 14 #[v, .agg #[sv, lv], .int .i64 (props : Int)] w fun e w' => e = .returned (.tuple #[.bool (satB ⟨Sm ++ Lp, Sm.length⟩ t 0), .int .i64 0]) ∧ Ext w w' := by
  have hx := ext_al (Ext.refl w) (Obj.cells #[sv, lv] 28)
  obtain ⟨n, hn⟩ : ∃ n, (Sm ++ Lp).length = n := ⟨_, rfl⟩
  have HM := Lib.hid (moments_any v sv lv t Sm Lp props _ (h.ext hx) (ht.ext hx) hf (hw.ext hx) ho n hn)
  have HX := Lib.hid hx
  have hl0 : 0 < n := by have := ho.l1; rw [← hn]; simp; omega
  obtain ⟨xs, hES, aS, cS, rfl, hrS⟩ := hw.st
  obtain ⟨ys, hEL, aL, cL, rfl, hrL⟩ := hw.lp
  clear hx h ht hf hw ho hES hrS hEL hrL
  clear hn
  generalize satB ⟨Sm ++ Lp, Sm.length⟩ t = f at *
  have hnI : (0 : Int) < (n : Int) := by omega
  obtain ⟨b, hb⟩ : ∃ b, f 0 = b := ⟨_, rfl⟩
  rw [hb]
  have HB := Lib.hid hb
  clear hb
  go_enter Tryd.func14, Tryd.ntmps14
  go_wp2_with fail
  refine HM.out.mono ?_
  rintro e w1 ⟨R, rfl, hO, hE⟩
  have c0 := rowF_cell hO hl0
  rw [HB.out] at c0
  have HE := Lib.hid (HX.out.trans hE)
  clear hO hE HM
  go_wp2
  go_ret2
  exact ⟨rfl, HE.out⟩
end Go.Proofs.YthkiegaifkkegaaDoor
