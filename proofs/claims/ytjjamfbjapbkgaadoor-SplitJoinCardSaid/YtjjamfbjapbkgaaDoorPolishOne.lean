/- The law PolishOne. -/
import Derived.Test.YtjjamfbjapbkgaaDoorEndsNest
namespace Go.Proofs.YtjjamfbjapbkgaaDoor
open Go.RowKit

theorem opc_take (l : List Op2) : ∀ c, (l.take c).flatMap opc = (l.flatMap opc).take (c * 2) := by
  induction l with
  | nil => intro c; simp
  | cons o l ih =>
    intro c
    cases c with
    | zero => simp
    | succ c =>
      have e : (c + 1) * 2 = (opc o).length + c * 2 := by simp [opc]; omega
      rw [List.take_succ_cons, List.flatMap_cons, List.flatMap_cons, ih, e, List.take_length_add_append]

set_option maxRecDepth 100000 in
set_option maxHeartbeats 2000000 in
theorem polishOne_law (v0 v1 : Value) (W : World) (ht : Tab W) (h0 : Cells Tryd.prog W 22 [v0]) (h1 : Cells Tryd.prog W 3 [v1]) :
    Calls Tryd.prog 4 #[v0, v1] W fun e w' => e = .returned (.bool true) ∧ Ext W w' := by
  obtain ⟨raw, h, hraw⟩ := raw_of h0
  obtain ⟨q, hq, q1, q2⟩ := h1.i64 Tryd.underlying3
  cases hq
  go_enter Tryd.func4, Tryd.ntmps4
  go_wp2_with fail
  refine (mkTruth v0 raw 3 W h hraw (by omega)).mono ?_
  rintro e w1 ⟨v1, rfl, hown, hE1⟩
  have hok : (truO raw 3).ok := truT_ok raw 3 3 0
  have hsm : (truO raw 3).size ≤ 26 := truT_small raw 3
  generalize truO raw 3 = t at *
  have hfl := Tm.flat_len t
  have hpos := t.size_pos
  have e1 := Lib.hid (fun c (hc : c < t.flat.length) => ends_cut t hok (by omega) c (by omega))
  have e2 := Lib.hid (ends_more t hok (by omega) (11, 0))
  have e3 := Lib.hid (ends_term t hok (by omega))
  have e4 := Lib.hid (Tm.ends_len t 0)
  generalize t.flat = l at *
  generalize t.ends 0 = es at *
  rw [← hfl] at hsm hpos
  clear hfl
  obtain ⟨a1, c1, rfl, hr1⟩ := hown.row
  have hbd := pk_bd q l.length (by omega)
  obtain ⟨hb1, hb2⟩ := hbd
  have hle := hr1.le
  have HT1 := Lib.hid (ht.ext hE1)
  have HE1 := Lib.hid hE1
  have HR1 := Lib.hid hr1
  have hw1 := hE1.size
  have CP0 := picked_any q l.length w1 q1 q2 (by omega) (by omega)
  obtain ⟨c, hc⟩ : ∃ c : Nat, pk q l.length = (c : Int) := ⟨(pk q l.length).toNat, by omega⟩
  rw [hc] at hb2
  have hcl : c < l.length := by omega
  rw [hc] at CP0
  have CP := Lib.hid CP0
  clear CP0 hc hb1 hb2 hown hr1 hE1 hok h hraw ht h0 h1
  go_wp2_with fail
  refine CP.out.mono ?_
  rintro e w' ⟨rfl, rfl⟩
  go_wp2_with fail
  have hops : Ops w1 (.slice a1 c c1) (l.take c) := by
    have := HR1.out.take c (by omega)
    refine ⟨a1, c1, by rw [List.length_take, Nat.min_eq_left (by omega)], ?_⟩
    rw [List.length_take, Nat.min_eq_left (by omega)]
    have e : (l.take c).flatMap opc = (l.flatMap opc).take (c * 2) := opc_take l c
    rw [e]
    exact this
  have H1 := ends_any _ _ w1 hops HT1.out
  rw [e1.out c hcl] at H1
  refine H1.mono ?_
  rintro e w2 ⟨hE2, rfl⟩
  have HE2 := Lib.hid (HE1.out.trans hE2)
  have HR2 := Lib.hid (HR1.out.ext hE2)
  have HT2 := Lib.hid (HT1.out.ext hE2)
  clear H1 hE2 hops
  have hone := Lib.hid (opc_one l)
  go_wp2_with (at_builtin; go_must (refine wpl_append rfl rfl Tryd.slOps w2.heap.size rfl (World.ownsRow_nil _ _ _ _) rfl HR2.out hone.out (by unfold maxLen; omega) (by omega) (Nat.le_refl _) ?_))
  intro va wa hoa hga _ _
  have hEa : Ext w2 wa := (Ext.refl _).grown hga (Nat.le_refl _) (by simp [Value.ownBlock])
  have hwa := hEa.size
  clear hga
  go_wp2_with (at_builtin; go_must (refine wpl_append rfl rfl Tryd.slOps w2.heap.size rfl (hoa.alloc _) rfl (Row.newOp _ _ _ _) (by simp [opc, Value.oneCell']) (by unfold maxLen; omega) (by omega) (Nat.le_trans hwa (by rw [World.size_alloc]; omega)) ?_))
  intro vb wb hob hgb _ _
  have hEb : Ext w2 wb := (hEa.alloc hwa _).grown hgb (Nat.le_trans hwa (by rw [World.size_alloc]; omega)) (fun k hk => (hoa.lt k hk).1)
  obtain ⟨ab, cb, rfl, hrb⟩ := hob.row
  have hopb : Ops wb (.slice ab (l.length + 1) cb) (l ++ [(11, 0)]) := by
    refine ⟨ab, cb, by simp, ?_⟩
    simpa using hrb
  have H3 := ends_any _ _ wb hopb (HT2.out.ext hEb)
  rw [e2.out] at H3
  have HE3 := Lib.hid (HE2.out.trans hEb)
  have HR3 := Lib.hid (HR2.out.ext hEb)
  have HT3 := Lib.hid (HT2.out.ext hEb)
  have HH3 := Lib.hid H3
  clear H3 hopb hrb hob hgb hEb hoa hEa hwa
  go_wp2_with fail
  refine HH3.out.mono ?_
  rintro e w3 ⟨hE3, rfl⟩
  have hops3 : Ops w3 (.slice a1 l.length c1) l := ⟨_, _, rfl, HR3.out.ext hE3⟩
  have H4 := ends_any _ _ w3 hops3 (HT3.out.ext hE3)
  rw [e3.out] at H4
  have HH4 := Lib.hid H4
  have HE4 := Lib.hid (HE3.out.trans hE3)
  clear H4 hops3 hE3
  go_wp2_with fail
  refine HH4.out.mono ?_
  rintro e w4 ⟨hE4, v4, rfl, _⟩
  have HE5 := Lib.hid (HE4.out.trans hE4)
  clear hE4
  go_wp2
  go_ret
  exact ⟨rfl, HE5.out⟩

end Go.Proofs.YtjjamfbjapbkgaaDoor
